/- What is proved: the laws of Sum and Sumless, and of Progression. No condition beyond those in each statement. -/
import Derived.Test.YtplafgmceggcnaaZA
namespace Go.Proofs.Ytplafgmceggcnaa
open Go.RowKit

theorem SumR_bad {cs : List Int} (h : cs.length < 1 ∨ 14 < cs.length ∨ inRange 3 cs = false) : SumR cs = (none, 2) := by
  unfold SumR
  rw [if_pos]
  rcases h with h | h | h
  · simp [h]
  · simp; omega
  · simp [h]
theorem SumR_ok {cs : List Int} (h1 : 1 ≤ cs.length) (h2 : cs.length ≤ 14) (h3 : inRange 3 cs = true) : SumR cs = (sumF cs, foundR (sumF cs)) := by
  unfold SumR
  rw [show decide (cs.length < 1) = false from decide_eq_false (by omega), show decide (cs.length > 14) = false from decide_eq_false (by omega), h3]; rfl
theorem ProgR_bad {cs : List Int} {k : Int} (hk : stepsB k = true) (h : cs.length < 1 ∨ 20 < cs.length ∨ inRange 3 cs = false) : ProgR cs k = (none, 2) := by
  unfold ProgR
  rw [hk, if_neg (by simp), if_pos]
  rcases h with h | h | h
  · simp [h]
  · simp; omega
  · simp [h]
theorem ProgR_ok {cs : List Int} {k : Int} (hk : stepsB k = true) (h1 : 1 ≤ cs.length) (h2 : cs.length ≤ 20) (h3 : inRange 3 cs = true) : ProgR cs k = (progF cs k.toNat, foundR (progF cs k.toNat)) := by
  unfold ProgR
  rw [hk, if_neg (by simp), show decide (cs.length < 1) = false from decide_eq_false (by omega), show decide (cs.length > 20) = false from decide_eq_false (by omega), h3]; rfl
theorem ProgR_err {cs : List Int} {k : Int} (hk : stepsB k = false) : ProgR cs k = (none, 1) := by
  unfold ProgR
  rw [hk, if_pos (by simp)]
theorem cut_calls2 (A : Option Addr) (n c : Nat) (xs ys : List Int) (m : Nat) (hys : ys = xs.take 29) (hm : m = ys.length) (w : World) (hn : n = xs.length) (hA : Rd w A xs) (hl : n ≤ c) (hc : c ≤ 9223372036854775807) (hnone : A = none → c = 0) :
    Calls Try.prog 16 #[.slice A n c] w fun e w' => ∃ A' c', e = .returned (.slice A' m c') ∧ m ≤ c' ∧ c' ≤ 9223372036854775807 ∧ Rd w' A' ys ∧ Below w.heap.size w w' := by
  subst hm
  subst hys
  refine (cut_calls A n c xs w hn hA hl hc hnone).mono ?_
  rintro e w' ⟨A', n', c', rfl, rfl, h⟩
  exact ⟨A', c', rfl, h⟩

set_option maxHeartbeats 16000000 in
theorem sumslaw_calls (A : Option Addr) (nx cx : Nat) (xs : List Int) (n r : Int) (w : World) (hn : nx = xs.length) (hA : Rd w A xs) (hl : nx ≤ cx) (hc : cx ≤ 9223372036854775807) (hnone : A = none → cx = 0) :
    Calls Try.prog 5 #[.slice A nx cx, .int .i64 n, .int .i64 r] w fun e w' => e = .returned (.bool true) ∧ Below w.heap.size w w' := by
  have qT : ∀ (w : World) (a : Option Addr) (n c n' c' : Nat), (binOp .eql 22 (.slice a n c) (.slice none n' c')).run Try.prog w = .ok (.bool a.isNone) w := fun w a n c n' c' => Lib.run_eql_slice_nil w _ _ a n c n' c' Try.underlying22
  obtain ⟨ys, hys⟩ : ∃ ys, ys = xs.take 29 := ⟨_, rfl⟩
  have hys29 : ys.length ≤ 29 := by rw [hys, List.length_take]; omega
  obtain ⟨m, hm⟩ : ∃ m, m = ys.length := ⟨_, rfl⟩
  have CC := Lib.hid (cut_calls2 A nx cx xs ys m hys hm w hn hA hl hc hnone)
  have HL := Lib.hid hm
  clear hn hA hys hnone
  have hE : ¬((1 ≤ n ∧ n ≤ 14) ∧ (1 ≤ r ∧ r ≤ 3)) → SumlessR n r = .error 1 := SumlessR_err
  by_cases p1 : m < 1
  · have HSR := Lib.hid (SumR_bad (cs := ys) (.inl (by omega)))
    clear hm
    cases b1 : inB n 1 14
    · have HB1 := Lib.hid b1
      have HE := Lib.hid (hE (by rintro ⟨h, _⟩; simp [inB] at b1; omega))
      clear b1 hE
      go_enter Try.func5, Try.ntmps5
      go_wp2_with fail
      refine CC.out.mono ?_
      rintro e w1 ⟨A1, c1, rfl, hc1, hc2, hrd, hB⟩
      have HR1 := Lib.hid hrd
      have HW := Lib.hid hB
      clear hrd hB
      go_wp2_with fail
      refine (Sum_calls A1 m c1 ys w1 HL.out HR1.out hc1 hc2).mono ?_
      rw [HSR.out]
      rintro e w2 ⟨v, rfl, ho, hB⟩
      obtain rfl : v = .slice none 0 0 := ho
      have HR2 := Lib.hid (HR1.out.below hB)
      have HW := Lib.hid (HW.out.trans (hB.mono HW.out.size))
      clear hB
      go_wp2_with fail
      refine (sumless_calls n r _).mono ?_
      rw [HE.out]
      rintro e w5 ⟨rfl, hB⟩
      have HW := Lib.hid (HW.out.trans (hB.mono HW.out.size))
      clear hB
      go_wp2_with fail
      refine (in_calls _ _ _ _).mono ?_
      rw [HB1.out]
      rintro e u1 ⟨rfl, rfl⟩
      go_wp2_with fail
      refine (lives_calls _).mono ?_
      rintro e x9 ⟨rfl, hB⟩
      have HX9 := Lib.hid (HW.out.trans (hB.mono HW.out.size))
      clear hB
      go_wp2_with fail
      go_ret
      exact ⟨rfl, HX9.out⟩
    · cases b2 : inB r 1 3
      · have HB1 := Lib.hid b1
        have HB2 := Lib.hid b2
        have HE := Lib.hid (hE (by rintro ⟨_, h⟩; simp [inB] at b2; omega))
        clear b1 b2 hE
        go_enter Try.func5, Try.ntmps5
        go_wp2_with fail
        refine CC.out.mono ?_
        rintro e w1 ⟨A1, c1, rfl, hc1, hc2, hrd, hB⟩
        have HR1 := Lib.hid hrd
        have HW := Lib.hid hB
        clear hrd hB
        go_wp2_with fail
        refine (Sum_calls A1 m c1 ys w1 HL.out HR1.out hc1 hc2).mono ?_
        rw [HSR.out]
        rintro e w2 ⟨v, rfl, ho, hB⟩
        obtain rfl : v = .slice none 0 0 := ho
        have HR2 := Lib.hid (HR1.out.below hB)
        have HW := Lib.hid (HW.out.trans (hB.mono HW.out.size))
        clear hB
        go_wp2_with fail
        refine (sumless_calls n r _).mono ?_
        rw [HE.out]
        rintro e w5 ⟨rfl, hB⟩
        have HW := Lib.hid (HW.out.trans (hB.mono HW.out.size))
        clear hB
        go_wp2_with fail
        refine (in_calls _ _ _ _).mono ?_
        rw [HB1.out]
        rintro e u1 ⟨rfl, rfl⟩
        go_wp2_with fail
        refine (in_calls _ _ _ _).mono ?_
        rw [HB2.out]
        rintro e u2 ⟨rfl, rfl⟩
        go_wp2_with fail
        refine (lives_calls _).mono ?_
        rintro e x9 ⟨rfl, hB⟩
        have HX9 := Lib.hid (HW.out.trans (hB.mono HW.out.size))
        clear hB
        go_wp2_with fail
        go_ret
        exact ⟨rfl, HX9.out⟩
      · have HB1 := Lib.hid b1
        have HB2 := Lib.hid b2
        simp [inB] at b1 b2
        obtain ⟨nn, hnn⟩ : ∃ q : Nat, n = q := ⟨n.toNat, by omega⟩
        obtain ⟨rr, hrr⟩ : ∃ q : Nat, r = q := ⟨r.toNat, by omega⟩
        subst hnn hrr
        have hok := SumlessR_ok (n := nn) (r := rr) (by omega)
        have CR := Lib.hid (fun (W : World) => refsumless_calls nn rr (by omega) (by omega) nn ⟨W.heap.size, 0, none⟩ 0 0 [] (W.alloc (.cells #[] 3)) rfl (by omega) (ow_new_rd W) (Nat.le_refl _) (by decide))
        have HREF' := ref_sumless nn rr
        clear hE
        cases hq : (sumlessL nn rr).head? with
        | none =>
          rw [hq] at hok HREF'
          have HE := Lib.hid hok
          have HREF := Lib.hid HREF'
          clear hq hok HREF' b1 b2
          go_enter Try.func5, Try.ntmps5
          go_wp2_with fail
          refine CC.out.mono ?_
          rintro e w1 ⟨A1, c1, rfl, hc1, hc2, hrd, hB⟩
          have HR1 := Lib.hid hrd
          have HW := Lib.hid hB
          clear hrd hB
          go_wp2_with fail
          refine (Sum_calls A1 m c1 ys w1 HL.out HR1.out hc1 hc2).mono ?_
          rw [HSR.out]
          rintro e w2 ⟨v, rfl, ho, hB⟩
          obtain rfl : v = .slice none 0 0 := ho
          have HR2 := Lib.hid (HR1.out.below hB)
          have HW := Lib.hid (HW.out.trans (hB.mono HW.out.size))
          clear hB
          go_wp2_with fail
          refine (sumless_calls nn rr _).mono ?_
          rw [HE.out]
          rintro e w5 ⟨rfl, hB⟩
          have HW := Lib.hid (HW.out.trans (hB.mono HW.out.size))
          clear hB
          go_wp2_with fail
          refine (in_calls _ _ _ _).mono ?_
          rw [HB1.out]
          rintro e u1 ⟨rfl, rfl⟩
          go_wp2_with fail
          refine (in_calls _ _ _ _).mono ?_
          rw [HB2.out]
          rintro e u2 ⟨rfl, rfl⟩
          go_wp2_with fail
          refine (CR.out _).mono ?_
          rw [HREF.out]
          rintro e w6 ⟨v, rfl, ho, hB⟩
          obtain rfl : v = .slice none 0 0 := ho
          have HW := Lib.hid (HW.out.trans ((((Below.refl _ _).alloc (Nat.le_refl _) _).trans (hB.mono (by simp))).mono HW.out.size))
          clear hB
          go_wp2_with fail
          refine (found_none _).mono ?_
          rintro e w7 ⟨rfl, hB⟩
          have HW := Lib.hid (HW.out.trans (hB.mono HW.out.size))
          clear hB
          go_wp2_with fail
          refine (lives_calls _).mono ?_
          rintro e x9 ⟨rfl, hB⟩
          have HX9 := Lib.hid (HW.out.trans (hB.mono HW.out.size))
          clear hB
          go_wp2_with fail
          go_ret
          exact ⟨rfl, HX9.out⟩
        | some zs =>
          rw [hq] at hok HREF'
          have HE := Lib.hid hok
          have HREF := Lib.hid HREF'
          clear hq hok HREF' b1 b2
          go_enter Try.func5, Try.ntmps5
          go_wp2_with fail
          refine CC.out.mono ?_
          rintro e w1 ⟨A1, c1, rfl, hc1, hc2, hrd, hB⟩
          have HR1 := Lib.hid hrd
          have HW := Lib.hid hB
          clear hrd hB
          go_wp2_with fail
          refine (Sum_calls A1 m c1 ys w1 HL.out HR1.out hc1 hc2).mono ?_
          rw [HSR.out]
          rintro e w2 ⟨v, rfl, ho, hB⟩
          obtain rfl : v = .slice none 0 0 := ho
          have HR2 := Lib.hid (HR1.out.below hB)
          have HW := Lib.hid (HW.out.trans (hB.mono HW.out.size))
          clear hB
          go_wp2_with fail
          refine (sumless_calls nn rr _).mono ?_
          rw [HE.out]
          rintro e w5 ⟨A5, n5, c5, rfl, hn5, h51, h52, hrd5, hB⟩
          have HN5 := Lib.hid hn5
          have HR5 := Lib.hid hrd5
          clear hn5 hrd5
          have HW := Lib.hid (HW.out.trans (hB.mono HW.out.size))
          clear hB
          go_wp2_with fail
          refine (in_calls _ _ _ _).mono ?_
          rw [HB1.out]
          rintro e u1 ⟨rfl, rfl⟩
          go_wp2_with fail
          refine (in_calls _ _ _ _).mono ?_
          rw [HB2.out]
          rintro e u2 ⟨rfl, rfl⟩
          go_wp2_with fail
          refine (CR.out _).mono ?_
          rw [HREF.out]
          rintro e w6 ⟨v, rfl, ho, hB⟩
          have HO6 := Lib.hid ho
          have HB6 : Hid (Below w5.heap.size w5 w6) := ((Below.refl _ _).alloc (Nat.le_refl _) _).trans (hB.mono (by simp))
          have HW := Lib.hid (HW.out.trans (HB6.out.mono HW.out.size))
          clear hB
          obtain ⟨⟨va6, vn6, vc6, rfl⟩, _⟩ := ho
          go_wp2_with fail
          refine (found_some A5 n5 c5 zs _ _ HN5.out (HR5.out.below HB6.out) h51 h52 HO6.out).mono ?_
          rintro e w7 ⟨rfl, hB⟩
          have HW := Lib.hid (HW.out.trans (hB.mono HW.out.size))
          clear hB
          go_wp2_with fail
          refine (lives_calls _).mono ?_
          rintro e x9 ⟨rfl, hB⟩
          have HX9 := Lib.hid (HW.out.trans (hB.mono HW.out.size))
          clear hB
          go_wp2_with fail
          go_ret
          exact ⟨rfl, HX9.out⟩
  · by_cases p2 : 14 < m
    · have HSR := Lib.hid (SumR_bad (cs := ys) (.inr (.inl (by omega))))
      clear hm
      cases b1 : inB n 1 14
      · have HB1 := Lib.hid b1
        have HE := Lib.hid (hE (by rintro ⟨h, _⟩; simp [inB] at b1; omega))
        clear b1 hE
        go_enter Try.func5, Try.ntmps5
        go_wp2_with fail
        refine CC.out.mono ?_
        rintro e w1 ⟨A1, c1, rfl, hc1, hc2, hrd, hB⟩
        have HR1 := Lib.hid hrd
        have HW := Lib.hid hB
        clear hrd hB
        go_wp2_with fail
        refine (Sum_calls A1 m c1 ys w1 HL.out HR1.out hc1 hc2).mono ?_
        rw [HSR.out]
        rintro e w2 ⟨v, rfl, ho, hB⟩
        obtain rfl : v = .slice none 0 0 := ho
        have HR2 := Lib.hid (HR1.out.below hB)
        have HW := Lib.hid (HW.out.trans (hB.mono HW.out.size))
        clear hB
        go_wp2_with fail
        refine (sumless_calls n r _).mono ?_
        rw [HE.out]
        rintro e w5 ⟨rfl, hB⟩
        have HW := Lib.hid (HW.out.trans (hB.mono HW.out.size))
        clear hB
        go_wp2_with fail
        refine (in_calls _ _ _ _).mono ?_
        rw [HB1.out]
        rintro e u1 ⟨rfl, rfl⟩
        go_wp2_with fail
        refine (lives_calls _).mono ?_
        rintro e x9 ⟨rfl, hB⟩
        have HX9 := Lib.hid (HW.out.trans (hB.mono HW.out.size))
        clear hB
        go_wp2_with fail
        go_ret
        exact ⟨rfl, HX9.out⟩
      · cases b2 : inB r 1 3
        · have HB1 := Lib.hid b1
          have HB2 := Lib.hid b2
          have HE := Lib.hid (hE (by rintro ⟨_, h⟩; simp [inB] at b2; omega))
          clear b1 b2 hE
          go_enter Try.func5, Try.ntmps5
          go_wp2_with fail
          refine CC.out.mono ?_
          rintro e w1 ⟨A1, c1, rfl, hc1, hc2, hrd, hB⟩
          have HR1 := Lib.hid hrd
          have HW := Lib.hid hB
          clear hrd hB
          go_wp2_with fail
          refine (Sum_calls A1 m c1 ys w1 HL.out HR1.out hc1 hc2).mono ?_
          rw [HSR.out]
          rintro e w2 ⟨v, rfl, ho, hB⟩
          obtain rfl : v = .slice none 0 0 := ho
          have HR2 := Lib.hid (HR1.out.below hB)
          have HW := Lib.hid (HW.out.trans (hB.mono HW.out.size))
          clear hB
          go_wp2_with fail
          refine (sumless_calls n r _).mono ?_
          rw [HE.out]
          rintro e w5 ⟨rfl, hB⟩
          have HW := Lib.hid (HW.out.trans (hB.mono HW.out.size))
          clear hB
          go_wp2_with fail
          refine (in_calls _ _ _ _).mono ?_
          rw [HB1.out]
          rintro e u1 ⟨rfl, rfl⟩
          go_wp2_with fail
          refine (in_calls _ _ _ _).mono ?_
          rw [HB2.out]
          rintro e u2 ⟨rfl, rfl⟩
          go_wp2_with fail
          refine (lives_calls _).mono ?_
          rintro e x9 ⟨rfl, hB⟩
          have HX9 := Lib.hid (HW.out.trans (hB.mono HW.out.size))
          clear hB
          go_wp2_with fail
          go_ret
          exact ⟨rfl, HX9.out⟩
        · have HB1 := Lib.hid b1
          have HB2 := Lib.hid b2
          simp [inB] at b1 b2
          obtain ⟨nn, hnn⟩ : ∃ q : Nat, n = q := ⟨n.toNat, by omega⟩
          obtain ⟨rr, hrr⟩ : ∃ q : Nat, r = q := ⟨r.toNat, by omega⟩
          subst hnn hrr
          have hok := SumlessR_ok (n := nn) (r := rr) (by omega)
          have CR := Lib.hid (fun (W : World) => refsumless_calls nn rr (by omega) (by omega) nn ⟨W.heap.size, 0, none⟩ 0 0 [] (W.alloc (.cells #[] 3)) rfl (by omega) (ow_new_rd W) (Nat.le_refl _) (by decide))
          have HREF' := ref_sumless nn rr
          clear hE
          cases hq : (sumlessL nn rr).head? with
          | none =>
            rw [hq] at hok HREF'
            have HE := Lib.hid hok
            have HREF := Lib.hid HREF'
            clear hq hok HREF' b1 b2
            go_enter Try.func5, Try.ntmps5
            go_wp2_with fail
            refine CC.out.mono ?_
            rintro e w1 ⟨A1, c1, rfl, hc1, hc2, hrd, hB⟩
            have HR1 := Lib.hid hrd
            have HW := Lib.hid hB
            clear hrd hB
            go_wp2_with fail
            refine (Sum_calls A1 m c1 ys w1 HL.out HR1.out hc1 hc2).mono ?_
            rw [HSR.out]
            rintro e w2 ⟨v, rfl, ho, hB⟩
            obtain rfl : v = .slice none 0 0 := ho
            have HR2 := Lib.hid (HR1.out.below hB)
            have HW := Lib.hid (HW.out.trans (hB.mono HW.out.size))
            clear hB
            go_wp2_with fail
            refine (sumless_calls nn rr _).mono ?_
            rw [HE.out]
            rintro e w5 ⟨rfl, hB⟩
            have HW := Lib.hid (HW.out.trans (hB.mono HW.out.size))
            clear hB
            go_wp2_with fail
            refine (in_calls _ _ _ _).mono ?_
            rw [HB1.out]
            rintro e u1 ⟨rfl, rfl⟩
            go_wp2_with fail
            refine (in_calls _ _ _ _).mono ?_
            rw [HB2.out]
            rintro e u2 ⟨rfl, rfl⟩
            go_wp2_with fail
            refine (CR.out _).mono ?_
            rw [HREF.out]
            rintro e w6 ⟨v, rfl, ho, hB⟩
            obtain rfl : v = .slice none 0 0 := ho
            have HW := Lib.hid (HW.out.trans ((((Below.refl _ _).alloc (Nat.le_refl _) _).trans (hB.mono (by simp))).mono HW.out.size))
            clear hB
            go_wp2_with fail
            refine (found_none _).mono ?_
            rintro e w7 ⟨rfl, hB⟩
            have HW := Lib.hid (HW.out.trans (hB.mono HW.out.size))
            clear hB
            go_wp2_with fail
            refine (lives_calls _).mono ?_
            rintro e x9 ⟨rfl, hB⟩
            have HX9 := Lib.hid (HW.out.trans (hB.mono HW.out.size))
            clear hB
            go_wp2_with fail
            go_ret
            exact ⟨rfl, HX9.out⟩
          | some zs =>
            rw [hq] at hok HREF'
            have HE := Lib.hid hok
            have HREF := Lib.hid HREF'
            clear hq hok HREF' b1 b2
            go_enter Try.func5, Try.ntmps5
            go_wp2_with fail
            refine CC.out.mono ?_
            rintro e w1 ⟨A1, c1, rfl, hc1, hc2, hrd, hB⟩
            have HR1 := Lib.hid hrd
            have HW := Lib.hid hB
            clear hrd hB
            go_wp2_with fail
            refine (Sum_calls A1 m c1 ys w1 HL.out HR1.out hc1 hc2).mono ?_
            rw [HSR.out]
            rintro e w2 ⟨v, rfl, ho, hB⟩
            obtain rfl : v = .slice none 0 0 := ho
            have HR2 := Lib.hid (HR1.out.below hB)
            have HW := Lib.hid (HW.out.trans (hB.mono HW.out.size))
            clear hB
            go_wp2_with fail
            refine (sumless_calls nn rr _).mono ?_
            rw [HE.out]
            rintro e w5 ⟨A5, n5, c5, rfl, hn5, h51, h52, hrd5, hB⟩
            have HN5 := Lib.hid hn5
            have HR5 := Lib.hid hrd5
            clear hn5 hrd5
            have HW := Lib.hid (HW.out.trans (hB.mono HW.out.size))
            clear hB
            go_wp2_with fail
            refine (in_calls _ _ _ _).mono ?_
            rw [HB1.out]
            rintro e u1 ⟨rfl, rfl⟩
            go_wp2_with fail
            refine (in_calls _ _ _ _).mono ?_
            rw [HB2.out]
            rintro e u2 ⟨rfl, rfl⟩
            go_wp2_with fail
            refine (CR.out _).mono ?_
            rw [HREF.out]
            rintro e w6 ⟨v, rfl, ho, hB⟩
            have HO6 := Lib.hid ho
            have HB6 : Hid (Below w5.heap.size w5 w6) := ((Below.refl _ _).alloc (Nat.le_refl _) _).trans (hB.mono (by simp))
            have HW := Lib.hid (HW.out.trans (HB6.out.mono HW.out.size))
            clear hB
            obtain ⟨⟨va6, vn6, vc6, rfl⟩, _⟩ := ho
            go_wp2_with fail
            refine (found_some A5 n5 c5 zs _ _ HN5.out (HR5.out.below HB6.out) h51 h52 HO6.out).mono ?_
            rintro e w7 ⟨rfl, hB⟩
            have HW := Lib.hid (HW.out.trans (hB.mono HW.out.size))
            clear hB
            go_wp2_with fail
            refine (lives_calls _).mono ?_
            rintro e x9 ⟨rfl, hB⟩
            have HX9 := Lib.hid (HW.out.trans (hB.mono HW.out.size))
            clear hB
            go_wp2_with fail
            go_ret
            exact ⟨rfl, HX9.out⟩
    · cases p3 : inRange 3 ys
      · have HIR := Lib.hid p3
        have HSR := Lib.hid (SumR_bad (cs := ys) (.inr (.inr p3)))
        clear hm p3
        cases b1 : inB n 1 14
        · have HB1 := Lib.hid b1
          have HE := Lib.hid (hE (by rintro ⟨h, _⟩; simp [inB] at b1; omega))
          clear b1 hE
          go_enter Try.func5, Try.ntmps5
          go_wp2_with fail
          refine CC.out.mono ?_
          rintro e w1 ⟨A1, c1, rfl, hc1, hc2, hrd, hB⟩
          have HR1 := Lib.hid hrd
          have HW := Lib.hid hB
          clear hrd hB
          go_wp2_with fail
          refine (Sum_calls A1 m c1 ys w1 HL.out HR1.out hc1 hc2).mono ?_
          rw [HSR.out]
          rintro e w2 ⟨v, rfl, ho, hB⟩
          obtain rfl : v = .slice none 0 0 := ho
          have HR2 := Lib.hid (HR1.out.below hB)
          have HW := Lib.hid (HW.out.trans (hB.mono HW.out.size))
          clear hB
          go_wp2_with fail
          refine (colors_calls A1 m c1 ys m 3 w2 HL.out HR2.out hc1 hc2 (by omega)).mono ?_
          rw [HIR.out, decide_eq_true (rfl : (m : Int) = m), Bool.true_and]
          rintro e u9 ⟨rfl, rfl⟩
          go_wp2_with fail
          refine (sumless_calls n r _).mono ?_
          rw [HE.out]
          rintro e w5 ⟨rfl, hB⟩
          have HW := Lib.hid (HW.out.trans (hB.mono HW.out.size))
          clear hB
          go_wp2_with fail
          refine (in_calls _ _ _ _).mono ?_
          rw [HB1.out]
          rintro e u1 ⟨rfl, rfl⟩
          go_wp2_with fail
          refine (lives_calls _).mono ?_
          rintro e x9 ⟨rfl, hB⟩
          have HX9 := Lib.hid (HW.out.trans (hB.mono HW.out.size))
          clear hB
          go_wp2_with fail
          go_ret
          exact ⟨rfl, HX9.out⟩
        · cases b2 : inB r 1 3
          · have HB1 := Lib.hid b1
            have HB2 := Lib.hid b2
            have HE := Lib.hid (hE (by rintro ⟨_, h⟩; simp [inB] at b2; omega))
            clear b1 b2 hE
            go_enter Try.func5, Try.ntmps5
            go_wp2_with fail
            refine CC.out.mono ?_
            rintro e w1 ⟨A1, c1, rfl, hc1, hc2, hrd, hB⟩
            have HR1 := Lib.hid hrd
            have HW := Lib.hid hB
            clear hrd hB
            go_wp2_with fail
            refine (Sum_calls A1 m c1 ys w1 HL.out HR1.out hc1 hc2).mono ?_
            rw [HSR.out]
            rintro e w2 ⟨v, rfl, ho, hB⟩
            obtain rfl : v = .slice none 0 0 := ho
            have HR2 := Lib.hid (HR1.out.below hB)
            have HW := Lib.hid (HW.out.trans (hB.mono HW.out.size))
            clear hB
            go_wp2_with fail
            refine (colors_calls A1 m c1 ys m 3 w2 HL.out HR2.out hc1 hc2 (by omega)).mono ?_
            rw [HIR.out, decide_eq_true (rfl : (m : Int) = m), Bool.true_and]
            rintro e u9 ⟨rfl, rfl⟩
            go_wp2_with fail
            refine (sumless_calls n r _).mono ?_
            rw [HE.out]
            rintro e w5 ⟨rfl, hB⟩
            have HW := Lib.hid (HW.out.trans (hB.mono HW.out.size))
            clear hB
            go_wp2_with fail
            refine (in_calls _ _ _ _).mono ?_
            rw [HB1.out]
            rintro e u1 ⟨rfl, rfl⟩
            go_wp2_with fail
            refine (in_calls _ _ _ _).mono ?_
            rw [HB2.out]
            rintro e u2 ⟨rfl, rfl⟩
            go_wp2_with fail
            refine (lives_calls _).mono ?_
            rintro e x9 ⟨rfl, hB⟩
            have HX9 := Lib.hid (HW.out.trans (hB.mono HW.out.size))
            clear hB
            go_wp2_with fail
            go_ret
            exact ⟨rfl, HX9.out⟩
          · have HB1 := Lib.hid b1
            have HB2 := Lib.hid b2
            simp [inB] at b1 b2
            obtain ⟨nn, hnn⟩ : ∃ q : Nat, n = q := ⟨n.toNat, by omega⟩
            obtain ⟨rr, hrr⟩ : ∃ q : Nat, r = q := ⟨r.toNat, by omega⟩
            subst hnn hrr
            have hok := SumlessR_ok (n := nn) (r := rr) (by omega)
            have CR := Lib.hid (fun (W : World) => refsumless_calls nn rr (by omega) (by omega) nn ⟨W.heap.size, 0, none⟩ 0 0 [] (W.alloc (.cells #[] 3)) rfl (by omega) (ow_new_rd W) (Nat.le_refl _) (by decide))
            have HREF' := ref_sumless nn rr
            clear hE
            cases hq : (sumlessL nn rr).head? with
            | none =>
              rw [hq] at hok HREF'
              have HE := Lib.hid hok
              have HREF := Lib.hid HREF'
              clear hq hok HREF' b1 b2
              go_enter Try.func5, Try.ntmps5
              go_wp2_with fail
              refine CC.out.mono ?_
              rintro e w1 ⟨A1, c1, rfl, hc1, hc2, hrd, hB⟩
              have HR1 := Lib.hid hrd
              have HW := Lib.hid hB
              clear hrd hB
              go_wp2_with fail
              refine (Sum_calls A1 m c1 ys w1 HL.out HR1.out hc1 hc2).mono ?_
              rw [HSR.out]
              rintro e w2 ⟨v, rfl, ho, hB⟩
              obtain rfl : v = .slice none 0 0 := ho
              have HR2 := Lib.hid (HR1.out.below hB)
              have HW := Lib.hid (HW.out.trans (hB.mono HW.out.size))
              clear hB
              go_wp2_with fail
              refine (colors_calls A1 m c1 ys m 3 w2 HL.out HR2.out hc1 hc2 (by omega)).mono ?_
              rw [HIR.out, decide_eq_true (rfl : (m : Int) = m), Bool.true_and]
              rintro e u9 ⟨rfl, rfl⟩
              go_wp2_with fail
              refine (sumless_calls nn rr _).mono ?_
              rw [HE.out]
              rintro e w5 ⟨rfl, hB⟩
              have HW := Lib.hid (HW.out.trans (hB.mono HW.out.size))
              clear hB
              go_wp2_with fail
              refine (in_calls _ _ _ _).mono ?_
              rw [HB1.out]
              rintro e u1 ⟨rfl, rfl⟩
              go_wp2_with fail
              refine (in_calls _ _ _ _).mono ?_
              rw [HB2.out]
              rintro e u2 ⟨rfl, rfl⟩
              go_wp2_with fail
              refine (CR.out _).mono ?_
              rw [HREF.out]
              rintro e w6 ⟨v, rfl, ho, hB⟩
              obtain rfl : v = .slice none 0 0 := ho
              have HW := Lib.hid (HW.out.trans ((((Below.refl _ _).alloc (Nat.le_refl _) _).trans (hB.mono (by simp))).mono HW.out.size))
              clear hB
              go_wp2_with fail
              refine (found_none _).mono ?_
              rintro e w7 ⟨rfl, hB⟩
              have HW := Lib.hid (HW.out.trans (hB.mono HW.out.size))
              clear hB
              go_wp2_with fail
              refine (lives_calls _).mono ?_
              rintro e x9 ⟨rfl, hB⟩
              have HX9 := Lib.hid (HW.out.trans (hB.mono HW.out.size))
              clear hB
              go_wp2_with fail
              go_ret
              exact ⟨rfl, HX9.out⟩
            | some zs =>
              rw [hq] at hok HREF'
              have HE := Lib.hid hok
              have HREF := Lib.hid HREF'
              clear hq hok HREF' b1 b2
              go_enter Try.func5, Try.ntmps5
              go_wp2_with fail
              refine CC.out.mono ?_
              rintro e w1 ⟨A1, c1, rfl, hc1, hc2, hrd, hB⟩
              have HR1 := Lib.hid hrd
              have HW := Lib.hid hB
              clear hrd hB
              go_wp2_with fail
              refine (Sum_calls A1 m c1 ys w1 HL.out HR1.out hc1 hc2).mono ?_
              rw [HSR.out]
              rintro e w2 ⟨v, rfl, ho, hB⟩
              obtain rfl : v = .slice none 0 0 := ho
              have HR2 := Lib.hid (HR1.out.below hB)
              have HW := Lib.hid (HW.out.trans (hB.mono HW.out.size))
              clear hB
              go_wp2_with fail
              refine (colors_calls A1 m c1 ys m 3 w2 HL.out HR2.out hc1 hc2 (by omega)).mono ?_
              rw [HIR.out, decide_eq_true (rfl : (m : Int) = m), Bool.true_and]
              rintro e u9 ⟨rfl, rfl⟩
              go_wp2_with fail
              refine (sumless_calls nn rr _).mono ?_
              rw [HE.out]
              rintro e w5 ⟨A5, n5, c5, rfl, hn5, h51, h52, hrd5, hB⟩
              have HN5 := Lib.hid hn5
              have HR5 := Lib.hid hrd5
              clear hn5 hrd5
              have HW := Lib.hid (HW.out.trans (hB.mono HW.out.size))
              clear hB
              go_wp2_with fail
              refine (in_calls _ _ _ _).mono ?_
              rw [HB1.out]
              rintro e u1 ⟨rfl, rfl⟩
              go_wp2_with fail
              refine (in_calls _ _ _ _).mono ?_
              rw [HB2.out]
              rintro e u2 ⟨rfl, rfl⟩
              go_wp2_with fail
              refine (CR.out _).mono ?_
              rw [HREF.out]
              rintro e w6 ⟨v, rfl, ho, hB⟩
              have HO6 := Lib.hid ho
              have HB6 : Hid (Below w5.heap.size w5 w6) := ((Below.refl _ _).alloc (Nat.le_refl _) _).trans (hB.mono (by simp))
              have HW := Lib.hid (HW.out.trans (HB6.out.mono HW.out.size))
              clear hB
              obtain ⟨⟨va6, vn6, vc6, rfl⟩, _⟩ := ho
              go_wp2_with fail
              refine (found_some A5 n5 c5 zs _ _ HN5.out (HR5.out.below HB6.out) h51 h52 HO6.out).mono ?_
              rintro e w7 ⟨rfl, hB⟩
              have HW := Lib.hid (HW.out.trans (hB.mono HW.out.size))
              clear hB
              go_wp2_with fail
              refine (lives_calls _).mono ?_
              rintro e x9 ⟨rfl, hB⟩
              have HX9 := Lib.hid (HW.out.trans (hB.mono HW.out.size))
              clear hB
              go_wp2_with fail
              go_ret
              exact ⟨rfl, HX9.out⟩
      · have HIR := Lib.hid p3
        have hsr := SumR_ok (cs := ys) (by omega) (by omega) p3
        clear hm p3
        cases hf : sumF ys with
        | none =>
          rw [hf] at hsr
          have HSR : Hid (SumR ys = (none, 5)) := hsr
          have HF := Lib.hid hf
          clear hf hsr
          cases b1 : inB n 1 14
          · have HB1 := Lib.hid b1
            have HE := Lib.hid (hE (by rintro ⟨h, _⟩; simp [inB] at b1; omega))
            clear b1 hE
            go_enter Try.func5, Try.ntmps5
            go_wp2_with fail
            refine CC.out.mono ?_
            rintro e w1 ⟨A1, c1, rfl, hc1, hc2, hrd, hB⟩
            have HR1 := Lib.hid hrd
            have HW := Lib.hid hB
            clear hrd hB
            go_wp2_with fail
            refine (Sum_calls A1 m c1 ys w1 HL.out HR1.out hc1 hc2).mono ?_
            rw [HSR.out]
            rintro e w2 ⟨v, rfl, ho, hB⟩
            obtain rfl : v = .slice none 0 0 := ho
            have HR2 := Lib.hid (HR1.out.below hB)
            have HW := Lib.hid (HW.out.trans (hB.mono HW.out.size))
            clear hB
            go_wp2_with fail
            refine (colors_calls A1 m c1 ys m 3 w2 HL.out HR2.out hc1 hc2 (by omega)).mono ?_
            rw [HIR.out, decide_eq_true (rfl : (m : Int) = m), Bool.true_and]
            rintro e u9 ⟨rfl, rfl⟩
            go_wp2_with fail
            refine (refsum_calls A1 m c1 ys w2 HL.out (by omega) HR2.out hc1 hc2).mono ?_
            rw [HF.out]
            rintro e w3 ⟨v, rfl, ho, hB⟩
            obtain rfl : v = .slice none 0 0 := ho
            have HW := Lib.hid (HW.out.trans (hB.mono HW.out.size))
            clear hB
            go_wp2_with fail
            refine (found_none _).mono ?_
            rintro e w4 ⟨rfl, hB⟩
            have HW := Lib.hid (HW.out.trans (hB.mono HW.out.size))
            clear hB
            go_wp2_with fail
            refine (sumless_calls n r _).mono ?_
            rw [HE.out]
            rintro e w5 ⟨rfl, hB⟩
            have HW := Lib.hid (HW.out.trans (hB.mono HW.out.size))
            clear hB
            go_wp2_with fail
            refine (in_calls _ _ _ _).mono ?_
            rw [HB1.out]
            rintro e u1 ⟨rfl, rfl⟩
            go_wp2_with fail
            refine (lives_calls _).mono ?_
            rintro e x9 ⟨rfl, hB⟩
            have HX9 := Lib.hid (HW.out.trans (hB.mono HW.out.size))
            clear hB
            go_wp2_with fail
            go_ret
            exact ⟨rfl, HX9.out⟩
          · cases b2 : inB r 1 3
            · have HB1 := Lib.hid b1
              have HB2 := Lib.hid b2
              have HE := Lib.hid (hE (by rintro ⟨_, h⟩; simp [inB] at b2; omega))
              clear b1 b2 hE
              go_enter Try.func5, Try.ntmps5
              go_wp2_with fail
              refine CC.out.mono ?_
              rintro e w1 ⟨A1, c1, rfl, hc1, hc2, hrd, hB⟩
              have HR1 := Lib.hid hrd
              have HW := Lib.hid hB
              clear hrd hB
              go_wp2_with fail
              refine (Sum_calls A1 m c1 ys w1 HL.out HR1.out hc1 hc2).mono ?_
              rw [HSR.out]
              rintro e w2 ⟨v, rfl, ho, hB⟩
              obtain rfl : v = .slice none 0 0 := ho
              have HR2 := Lib.hid (HR1.out.below hB)
              have HW := Lib.hid (HW.out.trans (hB.mono HW.out.size))
              clear hB
              go_wp2_with fail
              refine (colors_calls A1 m c1 ys m 3 w2 HL.out HR2.out hc1 hc2 (by omega)).mono ?_
              rw [HIR.out, decide_eq_true (rfl : (m : Int) = m), Bool.true_and]
              rintro e u9 ⟨rfl, rfl⟩
              go_wp2_with fail
              refine (refsum_calls A1 m c1 ys w2 HL.out (by omega) HR2.out hc1 hc2).mono ?_
              rw [HF.out]
              rintro e w3 ⟨v, rfl, ho, hB⟩
              obtain rfl : v = .slice none 0 0 := ho
              have HW := Lib.hid (HW.out.trans (hB.mono HW.out.size))
              clear hB
              go_wp2_with fail
              refine (found_none _).mono ?_
              rintro e w4 ⟨rfl, hB⟩
              have HW := Lib.hid (HW.out.trans (hB.mono HW.out.size))
              clear hB
              go_wp2_with fail
              refine (sumless_calls n r _).mono ?_
              rw [HE.out]
              rintro e w5 ⟨rfl, hB⟩
              have HW := Lib.hid (HW.out.trans (hB.mono HW.out.size))
              clear hB
              go_wp2_with fail
              refine (in_calls _ _ _ _).mono ?_
              rw [HB1.out]
              rintro e u1 ⟨rfl, rfl⟩
              go_wp2_with fail
              refine (in_calls _ _ _ _).mono ?_
              rw [HB2.out]
              rintro e u2 ⟨rfl, rfl⟩
              go_wp2_with fail
              refine (lives_calls _).mono ?_
              rintro e x9 ⟨rfl, hB⟩
              have HX9 := Lib.hid (HW.out.trans (hB.mono HW.out.size))
              clear hB
              go_wp2_with fail
              go_ret
              exact ⟨rfl, HX9.out⟩
            · have HB1 := Lib.hid b1
              have HB2 := Lib.hid b2
              simp [inB] at b1 b2
              obtain ⟨nn, hnn⟩ : ∃ q : Nat, n = q := ⟨n.toNat, by omega⟩
              obtain ⟨rr, hrr⟩ : ∃ q : Nat, r = q := ⟨r.toNat, by omega⟩
              subst hnn hrr
              have hok := SumlessR_ok (n := nn) (r := rr) (by omega)
              have CR := Lib.hid (fun (W : World) => refsumless_calls nn rr (by omega) (by omega) nn ⟨W.heap.size, 0, none⟩ 0 0 [] (W.alloc (.cells #[] 3)) rfl (by omega) (ow_new_rd W) (Nat.le_refl _) (by decide))
              have HREF' := ref_sumless nn rr
              clear hE
              cases hq : (sumlessL nn rr).head? with
              | none =>
                rw [hq] at hok HREF'
                have HE := Lib.hid hok
                have HREF := Lib.hid HREF'
                clear hq hok HREF' b1 b2
                go_enter Try.func5, Try.ntmps5
                go_wp2_with fail
                refine CC.out.mono ?_
                rintro e w1 ⟨A1, c1, rfl, hc1, hc2, hrd, hB⟩
                have HR1 := Lib.hid hrd
                have HW := Lib.hid hB
                clear hrd hB
                go_wp2_with fail
                refine (Sum_calls A1 m c1 ys w1 HL.out HR1.out hc1 hc2).mono ?_
                rw [HSR.out]
                rintro e w2 ⟨v, rfl, ho, hB⟩
                obtain rfl : v = .slice none 0 0 := ho
                have HR2 := Lib.hid (HR1.out.below hB)
                have HW := Lib.hid (HW.out.trans (hB.mono HW.out.size))
                clear hB
                go_wp2_with fail
                refine (colors_calls A1 m c1 ys m 3 w2 HL.out HR2.out hc1 hc2 (by omega)).mono ?_
                rw [HIR.out, decide_eq_true (rfl : (m : Int) = m), Bool.true_and]
                rintro e u9 ⟨rfl, rfl⟩
                go_wp2_with fail
                refine (refsum_calls A1 m c1 ys w2 HL.out (by omega) HR2.out hc1 hc2).mono ?_
                rw [HF.out]
                rintro e w3 ⟨v, rfl, ho, hB⟩
                obtain rfl : v = .slice none 0 0 := ho
                have HW := Lib.hid (HW.out.trans (hB.mono HW.out.size))
                clear hB
                go_wp2_with fail
                refine (found_none _).mono ?_
                rintro e w4 ⟨rfl, hB⟩
                have HW := Lib.hid (HW.out.trans (hB.mono HW.out.size))
                clear hB
                go_wp2_with fail
                refine (sumless_calls nn rr _).mono ?_
                rw [HE.out]
                rintro e w5 ⟨rfl, hB⟩
                have HW := Lib.hid (HW.out.trans (hB.mono HW.out.size))
                clear hB
                go_wp2_with fail
                refine (in_calls _ _ _ _).mono ?_
                rw [HB1.out]
                rintro e u1 ⟨rfl, rfl⟩
                go_wp2_with fail
                refine (in_calls _ _ _ _).mono ?_
                rw [HB2.out]
                rintro e u2 ⟨rfl, rfl⟩
                go_wp2_with fail
                refine (CR.out _).mono ?_
                rw [HREF.out]
                rintro e w6 ⟨v, rfl, ho, hB⟩
                obtain rfl : v = .slice none 0 0 := ho
                have HW := Lib.hid (HW.out.trans ((((Below.refl _ _).alloc (Nat.le_refl _) _).trans (hB.mono (by simp))).mono HW.out.size))
                clear hB
                go_wp2_with fail
                refine (found_none _).mono ?_
                rintro e w7 ⟨rfl, hB⟩
                have HW := Lib.hid (HW.out.trans (hB.mono HW.out.size))
                clear hB
                go_wp2_with fail
                refine (lives_calls _).mono ?_
                rintro e x9 ⟨rfl, hB⟩
                have HX9 := Lib.hid (HW.out.trans (hB.mono HW.out.size))
                clear hB
                go_wp2_with fail
                go_ret
                exact ⟨rfl, HX9.out⟩
              | some zs =>
                rw [hq] at hok HREF'
                have HE := Lib.hid hok
                have HREF := Lib.hid HREF'
                clear hq hok HREF' b1 b2
                go_enter Try.func5, Try.ntmps5
                go_wp2_with fail
                refine CC.out.mono ?_
                rintro e w1 ⟨A1, c1, rfl, hc1, hc2, hrd, hB⟩
                have HR1 := Lib.hid hrd
                have HW := Lib.hid hB
                clear hrd hB
                go_wp2_with fail
                refine (Sum_calls A1 m c1 ys w1 HL.out HR1.out hc1 hc2).mono ?_
                rw [HSR.out]
                rintro e w2 ⟨v, rfl, ho, hB⟩
                obtain rfl : v = .slice none 0 0 := ho
                have HR2 := Lib.hid (HR1.out.below hB)
                have HW := Lib.hid (HW.out.trans (hB.mono HW.out.size))
                clear hB
                go_wp2_with fail
                refine (colors_calls A1 m c1 ys m 3 w2 HL.out HR2.out hc1 hc2 (by omega)).mono ?_
                rw [HIR.out, decide_eq_true (rfl : (m : Int) = m), Bool.true_and]
                rintro e u9 ⟨rfl, rfl⟩
                go_wp2_with fail
                refine (refsum_calls A1 m c1 ys w2 HL.out (by omega) HR2.out hc1 hc2).mono ?_
                rw [HF.out]
                rintro e w3 ⟨v, rfl, ho, hB⟩
                obtain rfl : v = .slice none 0 0 := ho
                have HW := Lib.hid (HW.out.trans (hB.mono HW.out.size))
                clear hB
                go_wp2_with fail
                refine (found_none _).mono ?_
                rintro e w4 ⟨rfl, hB⟩
                have HW := Lib.hid (HW.out.trans (hB.mono HW.out.size))
                clear hB
                go_wp2_with fail
                refine (sumless_calls nn rr _).mono ?_
                rw [HE.out]
                rintro e w5 ⟨A5, n5, c5, rfl, hn5, h51, h52, hrd5, hB⟩
                have HN5 := Lib.hid hn5
                have HR5 := Lib.hid hrd5
                clear hn5 hrd5
                have HW := Lib.hid (HW.out.trans (hB.mono HW.out.size))
                clear hB
                go_wp2_with fail
                refine (in_calls _ _ _ _).mono ?_
                rw [HB1.out]
                rintro e u1 ⟨rfl, rfl⟩
                go_wp2_with fail
                refine (in_calls _ _ _ _).mono ?_
                rw [HB2.out]
                rintro e u2 ⟨rfl, rfl⟩
                go_wp2_with fail
                refine (CR.out _).mono ?_
                rw [HREF.out]
                rintro e w6 ⟨v, rfl, ho, hB⟩
                have HO6 := Lib.hid ho
                have HB6 : Hid (Below w5.heap.size w5 w6) := ((Below.refl _ _).alloc (Nat.le_refl _) _).trans (hB.mono (by simp))
                have HW := Lib.hid (HW.out.trans (HB6.out.mono HW.out.size))
                clear hB
                obtain ⟨⟨va6, vn6, vc6, rfl⟩, _⟩ := ho
                go_wp2_with fail
                refine (found_some A5 n5 c5 zs _ _ HN5.out (HR5.out.below HB6.out) h51 h52 HO6.out).mono ?_
                rintro e w7 ⟨rfl, hB⟩
                have HW := Lib.hid (HW.out.trans (hB.mono HW.out.size))
                clear hB
                go_wp2_with fail
                refine (lives_calls _).mono ?_
                rintro e x9 ⟨rfl, hB⟩
                have HX9 := Lib.hid (HW.out.trans (hB.mono HW.out.size))
                clear hB
                go_wp2_with fail
                go_ret
                exact ⟨rfl, HX9.out⟩
        | some q =>
          rw [hf] at hsr
          have HSR : Hid (SumR ys = (some q, 0)) := hsr
          have HF := Lib.hid hf
          clear hf hsr
          cases b1 : inB n 1 14
          · have HB1 := Lib.hid b1
            have HE := Lib.hid (hE (by rintro ⟨h, _⟩; simp [inB] at b1; omega))
            clear b1 hE
            go_enter Try.func5, Try.ntmps5
            go_wp2_with fail
            refine CC.out.mono ?_
            rintro e w1 ⟨A1, c1, rfl, hc1, hc2, hrd, hB⟩
            have HR1 := Lib.hid hrd
            have HW := Lib.hid hB
            clear hrd hB
            go_wp2_with fail
            refine (Sum_calls A1 m c1 ys w1 HL.out HR1.out hc1 hc2).mono ?_
            rw [HSR.out]
            rintro e w2 ⟨v, rfl, ho, hB⟩
            obtain ⟨⟨sa, sn, sc, rfl⟩, hs⟩ := ho
            obtain ⟨sA, sN, sC, e', g1, g2, g3, g4⟩ := hs.parts
            cases e'
            have HS1 := Lib.hid g1
            have HS4 := Lib.hid g4
            have HR2 := Lib.hid (HR1.out.below hB)
            have HW := Lib.hid (HW.out.trans (hB.mono HW.out.size))
            clear hB hs g1 g4
            go_wp2_with fail
            refine (colors_calls A1 m c1 ys m 3 w2 HL.out HR2.out hc1 hc2 (by omega)).mono ?_
            rw [HIR.out, decide_eq_true (rfl : (m : Int) = m), Bool.true_and]
            rintro e u9 ⟨rfl, rfl⟩
            go_wp2_with fail
            refine (refsum_calls A1 m c1 ys w2 HL.out (by omega) HR2.out hc1 hc2).mono ?_
            rw [HF.out]
            rintro e w3 ⟨v, rfl, ho, hB⟩
            have HO := Lib.hid ho
            have HS5 := Lib.hid (HS4.out.below hB)
            have HW := Lib.hid (HW.out.trans (hB.mono HW.out.size))
            clear hB
            obtain ⟨⟨va, vn, vc, rfl⟩, _⟩ := ho
            go_wp2_with fail
            refine (found_some (some sa) sn sc q _ _ HS1.out HS5.out g2 g3 HO.out).mono ?_
            rintro e w4 ⟨rfl, hB⟩
            have HW := Lib.hid (HW.out.trans (hB.mono HW.out.size))
            clear hB
            go_wp2_with fail
            refine (sumless_calls n r _).mono ?_
            rw [HE.out]
            rintro e w5 ⟨rfl, hB⟩
            have HW := Lib.hid (HW.out.trans (hB.mono HW.out.size))
            clear hB
            go_wp2_with fail
            refine (in_calls _ _ _ _).mono ?_
            rw [HB1.out]
            rintro e u1 ⟨rfl, rfl⟩
            go_wp2_with fail
            refine (lives_calls _).mono ?_
            rintro e x9 ⟨rfl, hB⟩
            have HX9 := Lib.hid (HW.out.trans (hB.mono HW.out.size))
            clear hB
            go_wp2_with fail
            go_ret
            exact ⟨rfl, HX9.out⟩
          · cases b2 : inB r 1 3
            · have HB1 := Lib.hid b1
              have HB2 := Lib.hid b2
              have HE := Lib.hid (hE (by rintro ⟨_, h⟩; simp [inB] at b2; omega))
              clear b1 b2 hE
              go_enter Try.func5, Try.ntmps5
              go_wp2_with fail
              refine CC.out.mono ?_
              rintro e w1 ⟨A1, c1, rfl, hc1, hc2, hrd, hB⟩
              have HR1 := Lib.hid hrd
              have HW := Lib.hid hB
              clear hrd hB
              go_wp2_with fail
              refine (Sum_calls A1 m c1 ys w1 HL.out HR1.out hc1 hc2).mono ?_
              rw [HSR.out]
              rintro e w2 ⟨v, rfl, ho, hB⟩
              obtain ⟨⟨sa, sn, sc, rfl⟩, hs⟩ := ho
              obtain ⟨sA, sN, sC, e', g1, g2, g3, g4⟩ := hs.parts
              cases e'
              have HS1 := Lib.hid g1
              have HS4 := Lib.hid g4
              have HR2 := Lib.hid (HR1.out.below hB)
              have HW := Lib.hid (HW.out.trans (hB.mono HW.out.size))
              clear hB hs g1 g4
              go_wp2_with fail
              refine (colors_calls A1 m c1 ys m 3 w2 HL.out HR2.out hc1 hc2 (by omega)).mono ?_
              rw [HIR.out, decide_eq_true (rfl : (m : Int) = m), Bool.true_and]
              rintro e u9 ⟨rfl, rfl⟩
              go_wp2_with fail
              refine (refsum_calls A1 m c1 ys w2 HL.out (by omega) HR2.out hc1 hc2).mono ?_
              rw [HF.out]
              rintro e w3 ⟨v, rfl, ho, hB⟩
              have HO := Lib.hid ho
              have HS5 := Lib.hid (HS4.out.below hB)
              have HW := Lib.hid (HW.out.trans (hB.mono HW.out.size))
              clear hB
              obtain ⟨⟨va, vn, vc, rfl⟩, _⟩ := ho
              go_wp2_with fail
              refine (found_some (some sa) sn sc q _ _ HS1.out HS5.out g2 g3 HO.out).mono ?_
              rintro e w4 ⟨rfl, hB⟩
              have HW := Lib.hid (HW.out.trans (hB.mono HW.out.size))
              clear hB
              go_wp2_with fail
              refine (sumless_calls n r _).mono ?_
              rw [HE.out]
              rintro e w5 ⟨rfl, hB⟩
              have HW := Lib.hid (HW.out.trans (hB.mono HW.out.size))
              clear hB
              go_wp2_with fail
              refine (in_calls _ _ _ _).mono ?_
              rw [HB1.out]
              rintro e u1 ⟨rfl, rfl⟩
              go_wp2_with fail
              refine (in_calls _ _ _ _).mono ?_
              rw [HB2.out]
              rintro e u2 ⟨rfl, rfl⟩
              go_wp2_with fail
              refine (lives_calls _).mono ?_
              rintro e x9 ⟨rfl, hB⟩
              have HX9 := Lib.hid (HW.out.trans (hB.mono HW.out.size))
              clear hB
              go_wp2_with fail
              go_ret
              exact ⟨rfl, HX9.out⟩
            · have HB1 := Lib.hid b1
              have HB2 := Lib.hid b2
              simp [inB] at b1 b2
              obtain ⟨nn, hnn⟩ : ∃ q : Nat, n = q := ⟨n.toNat, by omega⟩
              obtain ⟨rr, hrr⟩ : ∃ q : Nat, r = q := ⟨r.toNat, by omega⟩
              subst hnn hrr
              have hok := SumlessR_ok (n := nn) (r := rr) (by omega)
              have CR := Lib.hid (fun (W : World) => refsumless_calls nn rr (by omega) (by omega) nn ⟨W.heap.size, 0, none⟩ 0 0 [] (W.alloc (.cells #[] 3)) rfl (by omega) (ow_new_rd W) (Nat.le_refl _) (by decide))
              have HREF' := ref_sumless nn rr
              clear hE
              cases hq : (sumlessL nn rr).head? with
              | none =>
                rw [hq] at hok HREF'
                have HE := Lib.hid hok
                have HREF := Lib.hid HREF'
                clear hq hok HREF' b1 b2
                go_enter Try.func5, Try.ntmps5
                go_wp2_with fail
                refine CC.out.mono ?_
                rintro e w1 ⟨A1, c1, rfl, hc1, hc2, hrd, hB⟩
                have HR1 := Lib.hid hrd
                have HW := Lib.hid hB
                clear hrd hB
                go_wp2_with fail
                refine (Sum_calls A1 m c1 ys w1 HL.out HR1.out hc1 hc2).mono ?_
                rw [HSR.out]
                rintro e w2 ⟨v, rfl, ho, hB⟩
                obtain ⟨⟨sa, sn, sc, rfl⟩, hs⟩ := ho
                obtain ⟨sA, sN, sC, e', g1, g2, g3, g4⟩ := hs.parts
                cases e'
                have HS1 := Lib.hid g1
                have HS4 := Lib.hid g4
                have HR2 := Lib.hid (HR1.out.below hB)
                have HW := Lib.hid (HW.out.trans (hB.mono HW.out.size))
                clear hB hs g1 g4
                go_wp2_with fail
                refine (colors_calls A1 m c1 ys m 3 w2 HL.out HR2.out hc1 hc2 (by omega)).mono ?_
                rw [HIR.out, decide_eq_true (rfl : (m : Int) = m), Bool.true_and]
                rintro e u9 ⟨rfl, rfl⟩
                go_wp2_with fail
                refine (refsum_calls A1 m c1 ys w2 HL.out (by omega) HR2.out hc1 hc2).mono ?_
                rw [HF.out]
                rintro e w3 ⟨v, rfl, ho, hB⟩
                have HO := Lib.hid ho
                have HS5 := Lib.hid (HS4.out.below hB)
                have HW := Lib.hid (HW.out.trans (hB.mono HW.out.size))
                clear hB
                obtain ⟨⟨va, vn, vc, rfl⟩, _⟩ := ho
                go_wp2_with fail
                refine (found_some (some sa) sn sc q _ _ HS1.out HS5.out g2 g3 HO.out).mono ?_
                rintro e w4 ⟨rfl, hB⟩
                have HW := Lib.hid (HW.out.trans (hB.mono HW.out.size))
                clear hB
                go_wp2_with fail
                refine (sumless_calls nn rr _).mono ?_
                rw [HE.out]
                rintro e w5 ⟨rfl, hB⟩
                have HW := Lib.hid (HW.out.trans (hB.mono HW.out.size))
                clear hB
                go_wp2_with fail
                refine (in_calls _ _ _ _).mono ?_
                rw [HB1.out]
                rintro e u1 ⟨rfl, rfl⟩
                go_wp2_with fail
                refine (in_calls _ _ _ _).mono ?_
                rw [HB2.out]
                rintro e u2 ⟨rfl, rfl⟩
                go_wp2_with fail
                refine (CR.out _).mono ?_
                rw [HREF.out]
                rintro e w6 ⟨v, rfl, ho, hB⟩
                obtain rfl : v = .slice none 0 0 := ho
                have HW := Lib.hid (HW.out.trans ((((Below.refl _ _).alloc (Nat.le_refl _) _).trans (hB.mono (by simp))).mono HW.out.size))
                clear hB
                go_wp2_with fail
                refine (found_none _).mono ?_
                rintro e w7 ⟨rfl, hB⟩
                have HW := Lib.hid (HW.out.trans (hB.mono HW.out.size))
                clear hB
                go_wp2_with fail
                refine (lives_calls _).mono ?_
                rintro e x9 ⟨rfl, hB⟩
                have HX9 := Lib.hid (HW.out.trans (hB.mono HW.out.size))
                clear hB
                go_wp2_with fail
                go_ret
                exact ⟨rfl, HX9.out⟩
              | some zs =>
                rw [hq] at hok HREF'
                have HE := Lib.hid hok
                have HREF := Lib.hid HREF'
                clear hq hok HREF' b1 b2
                go_enter Try.func5, Try.ntmps5
                go_wp2_with fail
                refine CC.out.mono ?_
                rintro e w1 ⟨A1, c1, rfl, hc1, hc2, hrd, hB⟩
                have HR1 := Lib.hid hrd
                have HW := Lib.hid hB
                clear hrd hB
                go_wp2_with fail
                refine (Sum_calls A1 m c1 ys w1 HL.out HR1.out hc1 hc2).mono ?_
                rw [HSR.out]
                rintro e w2 ⟨v, rfl, ho, hB⟩
                obtain ⟨⟨sa, sn, sc, rfl⟩, hs⟩ := ho
                obtain ⟨sA, sN, sC, e', g1, g2, g3, g4⟩ := hs.parts
                cases e'
                have HS1 := Lib.hid g1
                have HS4 := Lib.hid g4
                have HR2 := Lib.hid (HR1.out.below hB)
                have HW := Lib.hid (HW.out.trans (hB.mono HW.out.size))
                clear hB hs g1 g4
                go_wp2_with fail
                refine (colors_calls A1 m c1 ys m 3 w2 HL.out HR2.out hc1 hc2 (by omega)).mono ?_
                rw [HIR.out, decide_eq_true (rfl : (m : Int) = m), Bool.true_and]
                rintro e u9 ⟨rfl, rfl⟩
                go_wp2_with fail
                refine (refsum_calls A1 m c1 ys w2 HL.out (by omega) HR2.out hc1 hc2).mono ?_
                rw [HF.out]
                rintro e w3 ⟨v, rfl, ho, hB⟩
                have HO := Lib.hid ho
                have HS5 := Lib.hid (HS4.out.below hB)
                have HW := Lib.hid (HW.out.trans (hB.mono HW.out.size))
                clear hB
                obtain ⟨⟨va, vn, vc, rfl⟩, _⟩ := ho
                go_wp2_with fail
                refine (found_some (some sa) sn sc q _ _ HS1.out HS5.out g2 g3 HO.out).mono ?_
                rintro e w4 ⟨rfl, hB⟩
                have HW := Lib.hid (HW.out.trans (hB.mono HW.out.size))
                clear hB
                go_wp2_with fail
                refine (sumless_calls nn rr _).mono ?_
                rw [HE.out]
                rintro e w5 ⟨A5, n5, c5, rfl, hn5, h51, h52, hrd5, hB⟩
                have HN5 := Lib.hid hn5
                have HR5 := Lib.hid hrd5
                clear hn5 hrd5
                have HW := Lib.hid (HW.out.trans (hB.mono HW.out.size))
                clear hB
                go_wp2_with fail
                refine (in_calls _ _ _ _).mono ?_
                rw [HB1.out]
                rintro e u1 ⟨rfl, rfl⟩
                go_wp2_with fail
                refine (in_calls _ _ _ _).mono ?_
                rw [HB2.out]
                rintro e u2 ⟨rfl, rfl⟩
                go_wp2_with fail
                refine (CR.out _).mono ?_
                rw [HREF.out]
                rintro e w6 ⟨v, rfl, ho, hB⟩
                have HO6 := Lib.hid ho
                have HB6 : Hid (Below w5.heap.size w5 w6) := ((Below.refl _ _).alloc (Nat.le_refl _) _).trans (hB.mono (by simp))
                have HW := Lib.hid (HW.out.trans (HB6.out.mono HW.out.size))
                clear hB
                obtain ⟨⟨va6, vn6, vc6, rfl⟩, _⟩ := ho
                go_wp2_with fail
                refine (found_some A5 n5 c5 zs _ _ HN5.out (HR5.out.below HB6.out) h51 h52 HO6.out).mono ?_
                rintro e w7 ⟨rfl, hB⟩
                have HW := Lib.hid (HW.out.trans (hB.mono HW.out.size))
                clear hB
                go_wp2_with fail
                refine (lives_calls _).mono ?_
                rintro e x9 ⟨rfl, hB⟩
                have HX9 := Lib.hid (HW.out.trans (hB.mono HW.out.size))
                clear hB
                go_wp2_with fail
                go_ret
                exact ⟨rfl, HX9.out⟩

set_option maxHeartbeats 16000000 in
theorem progressionslaw_calls (A : Option Addr) (nx cx : Nat) (xs : List Int) (k : Int) (w : World) (hn : nx = xs.length) (hA : Rd w A xs) (hl : nx ≤ cx) (hc : cx ≤ 9223372036854775807) (hnone : A = none → cx = 0) :
    Calls Try.prog 6 #[.slice A nx cx, .int .i64 k] w fun e w' => e = .returned (.bool true) ∧ Below w.heap.size w w' := by
  have qT : ∀ (w : World) (a : Option Addr) (n c n' c' : Nat), (binOp .eql 22 (.slice a n c) (.slice none n' c')).run Try.prog w = .ok (.bool a.isNone) w := fun w a n c n' c' => Lib.run_eql_slice_nil w _ _ a n c n' c' Try.underlying22
  obtain ⟨ys, hys⟩ : ∃ ys, ys = xs.take 29 := ⟨_, rfl⟩
  have hys29 : ys.length ≤ 29 := by rw [hys, List.length_take]; omega
  obtain ⟨m, hm⟩ : ∃ m, m = ys.length := ⟨_, rfl⟩
  have CC := Lib.hid (cut_calls2 A nx cx xs ys m hys hm w hn hA hl hc hnone)
  have HL := Lib.hid hm
  clear hn hA hys hnone
  cases hs : stepsB k
  · have HSR := Lib.hid (ProgR_err (cs := ys) hs)
    have hk1 : (k != 3) = true := by
      rw [bne_iff_ne]; rintro rfl; cases hs
    have hk2 : (k != 4) = true := by
      rw [bne_iff_ne]; rintro rfl; cases hs
    clear hm hs
    go_enter Try.func6, Try.ntmps6
    go_wp2_with fail
    refine CC.out.mono ?_
    rintro e w1 ⟨A1, c1, rfl, hc1, hc2, hrd, hB⟩
    have HR1 := Lib.hid hrd
    have HW := Lib.hid hB
    clear hrd hB
    go_wp2_with fail
    refine (Progression_calls A1 m c1 ys k w1 HL.out HR1.out hc1 hc2).mono ?_
    rw [HSR.out]
    rintro e w2 ⟨v, rfl, ho, hB⟩
    obtain rfl : v = .slice none 0 0 := ho
    have HR2 := Lib.hid (HR1.out.below hB)
    have HW := Lib.hid (HW.out.trans (hB.mono HW.out.size))
    clear hB
    go_wp2_with fail
    refine (lives_calls _).mono ?_
    rintro e x9 ⟨rfl, hB⟩
    have HX9 := Lib.hid (HW.out.trans (hB.mono HW.out.size))
    clear hB
    go_wp2_with fail
    go_ret
    exact ⟨rfl, HX9.out⟩
  · have hk := stepsB_iff.1 hs
    have HS := Lib.hid hs
    obtain ⟨t, rfl⟩ : ∃ t : Nat, k = t := ⟨k.toNat, by omega⟩
    have hk3 : t = 3 ∨ t = 4 := by omega
    clear hk hs
    have key : (((t : Int) != 3) = true ∧ ((t : Int) != 4) = false) ∨ ((t : Int) != 3) = false := by
      rcases hk3 with rfl | rfl
      · exact .inr rfl
      · exact .inl ⟨rfl, rfl⟩
    have HK3 := Lib.hid hk3
    clear hk3
    rcases key with ⟨k1, k2⟩ | k1
    all_goals
      by_cases p1 : m < 1
      · have HSR := Lib.hid (ProgR_bad (cs := ys) HS.out (.inl (by omega)))
        clear hm
        go_enter Try.func6, Try.ntmps6
        go_wp2_with fail
        refine CC.out.mono ?_
        rintro e w1 ⟨A1, c1, rfl, hc1, hc2, hrd, hB⟩
        have HR1 := Lib.hid hrd
        have HW := Lib.hid hB
        clear hrd hB
        go_wp2_with fail
        refine (Progression_calls A1 m c1 ys t w1 HL.out HR1.out hc1 hc2).mono ?_
        rw [HSR.out]
        rintro e w2 ⟨v, rfl, ho, hB⟩
        obtain rfl : v = .slice none 0 0 := ho
        have HR2 := Lib.hid (HR1.out.below hB)
        have HW := Lib.hid (HW.out.trans (hB.mono HW.out.size))
        clear hB
        go_wp2_with fail
        refine (lives_calls _).mono ?_
        rintro e x9 ⟨rfl, hB⟩
        have HX9 := Lib.hid (HW.out.trans (hB.mono HW.out.size))
        clear hB
        go_wp2_with fail
        go_ret
        exact ⟨rfl, HX9.out⟩
      · by_cases p2 : 20 < m
        · have HSR := Lib.hid (ProgR_bad (cs := ys) HS.out (.inr (.inl (by omega))))
          clear hm
          go_enter Try.func6, Try.ntmps6
          go_wp2_with fail
          refine CC.out.mono ?_
          rintro e w1 ⟨A1, c1, rfl, hc1, hc2, hrd, hB⟩
          have HR1 := Lib.hid hrd
          have HW := Lib.hid hB
          clear hrd hB
          go_wp2_with fail
          refine (Progression_calls A1 m c1 ys t w1 HL.out HR1.out hc1 hc2).mono ?_
          rw [HSR.out]
          rintro e w2 ⟨v, rfl, ho, hB⟩
          obtain rfl : v = .slice none 0 0 := ho
          have HR2 := Lib.hid (HR1.out.below hB)
          have HW := Lib.hid (HW.out.trans (hB.mono HW.out.size))
          clear hB
          go_wp2_with fail
          refine (lives_calls _).mono ?_
          rintro e x9 ⟨rfl, hB⟩
          have HX9 := Lib.hid (HW.out.trans (hB.mono HW.out.size))
          clear hB
          go_wp2_with fail
          go_ret
          exact ⟨rfl, HX9.out⟩
        · cases p3 : inRange 3 ys
          · have HIR := Lib.hid p3
            have HSR := Lib.hid (ProgR_bad (cs := ys) HS.out (.inr (.inr p3)))
            clear hm p3
            go_enter Try.func6, Try.ntmps6
            go_wp2_with fail
            refine CC.out.mono ?_
            rintro e w1 ⟨A1, c1, rfl, hc1, hc2, hrd, hB⟩
            have HR1 := Lib.hid hrd
            have HW := Lib.hid hB
            clear hrd hB
            go_wp2_with fail
            refine (Progression_calls A1 m c1 ys t w1 HL.out HR1.out hc1 hc2).mono ?_
            rw [HSR.out]
            rintro e w2 ⟨v, rfl, ho, hB⟩
            obtain rfl : v = .slice none 0 0 := ho
            have HR2 := Lib.hid (HR1.out.below hB)
            have HW := Lib.hid (HW.out.trans (hB.mono HW.out.size))
            clear hB
            go_wp2_with fail
            refine (colors_calls A1 m c1 ys m 3 w2 HL.out HR2.out hc1 hc2 (by omega)).mono ?_
            rw [HIR.out, decide_eq_true (rfl : (m : Int) = m), Bool.true_and]
            rintro e u9 ⟨rfl, rfl⟩
            go_wp2_with fail
            refine (lives_calls _).mono ?_
            rintro e x9 ⟨rfl, hB⟩
            have HX9 := Lib.hid (HW.out.trans (hB.mono HW.out.size))
            clear hB
            go_wp2_with fail
            go_ret
            exact ⟨rfl, HX9.out⟩
          · have HIR := Lib.hid p3
            have hsr := ProgR_ok (cs := ys) HS.out (by omega) (by omega) p3
            rw [Int.toNat_natCast] at hsr
            clear hm p3
            cases hf : progF ys t with
            | none =>
              rw [hf] at hsr
              have HSR : Hid (ProgR ys t = (none, 5)) := hsr
              have HF := Lib.hid hf
              clear hf hsr
              go_enter Try.func6, Try.ntmps6
              go_wp2_with fail
              refine CC.out.mono ?_
              rintro e w1 ⟨A1, c1, rfl, hc1, hc2, hrd, hB⟩
              have HR1 := Lib.hid hrd
              have HW := Lib.hid hB
              clear hrd hB
              go_wp2_with fail
              refine (Progression_calls A1 m c1 ys t w1 HL.out HR1.out hc1 hc2).mono ?_
              rw [HSR.out]
              rintro e w2 ⟨v, rfl, ho, hB⟩
              obtain rfl : v = .slice none 0 0 := ho
              have HR2 := Lib.hid (HR1.out.below hB)
              have HW := Lib.hid (HW.out.trans (hB.mono HW.out.size))
              clear hB
              go_wp2_with fail
              refine (colors_calls A1 m c1 ys m 3 w2 HL.out HR2.out hc1 hc2 (by omega)).mono ?_
              rw [HIR.out, decide_eq_true (rfl : (m : Int) = m), Bool.true_and]
              rintro e u9 ⟨rfl, rfl⟩
              go_wp2_with fail
              refine (refprog_calls A1 m c1 ys t HK3.out w2 HL.out (by omega) HR2.out hc1 hc2).mono ?_
              rw [HF.out]
              rintro e w3 ⟨v, rfl, ho, hB⟩
              obtain rfl : v = .slice none 0 0 := ho
              have HW := Lib.hid (HW.out.trans (hB.mono HW.out.size))
              clear hB
              go_wp2_with fail
              refine (found_none _).mono ?_
              rintro e w4 ⟨rfl, hB⟩
              have HW := Lib.hid (HW.out.trans (hB.mono HW.out.size))
              clear hB
              go_wp2_with fail
              refine (lives_calls _).mono ?_
              rintro e x9 ⟨rfl, hB⟩
              have HX9 := Lib.hid (HW.out.trans (hB.mono HW.out.size))
              clear hB
              go_wp2_with fail
              go_ret
              exact ⟨rfl, HX9.out⟩
            | some q =>
              rw [hf] at hsr
              have HSR : Hid (ProgR ys t = (some q, 0)) := hsr
              have HF := Lib.hid hf
              clear hf hsr
              go_enter Try.func6, Try.ntmps6
              go_wp2_with fail
              refine CC.out.mono ?_
              rintro e w1 ⟨A1, c1, rfl, hc1, hc2, hrd, hB⟩
              have HR1 := Lib.hid hrd
              have HW := Lib.hid hB
              clear hrd hB
              go_wp2_with fail
              refine (Progression_calls A1 m c1 ys t w1 HL.out HR1.out hc1 hc2).mono ?_
              rw [HSR.out]
              rintro e w2 ⟨v, rfl, ho, hB⟩
              obtain ⟨⟨sa, sn, sc, rfl⟩, hs⟩ := ho
              obtain ⟨sA, sN, sC, e', g1, g2, g3, g4⟩ := hs.parts
              cases e'
              have HS1 := Lib.hid g1
              have HS4 := Lib.hid g4
              have HR2 := Lib.hid (HR1.out.below hB)
              have HW := Lib.hid (HW.out.trans (hB.mono HW.out.size))
              clear hB hs g1 g4
              go_wp2_with fail
              refine (colors_calls A1 m c1 ys m 3 w2 HL.out HR2.out hc1 hc2 (by omega)).mono ?_
              rw [HIR.out, decide_eq_true (rfl : (m : Int) = m), Bool.true_and]
              rintro e u9 ⟨rfl, rfl⟩
              go_wp2_with fail
              refine (refprog_calls A1 m c1 ys t HK3.out w2 HL.out (by omega) HR2.out hc1 hc2).mono ?_
              rw [HF.out]
              rintro e w3 ⟨v, rfl, ho, hB⟩
              have HO := Lib.hid ho
              have HS5 := Lib.hid (HS4.out.below hB)
              have HW := Lib.hid (HW.out.trans (hB.mono HW.out.size))
              clear hB
              obtain ⟨⟨va, vn, vc, rfl⟩, _⟩ := ho
              go_wp2_with fail
              refine (found_some (some sa) sn sc q _ _ HS1.out HS5.out g2 g3 HO.out).mono ?_
              rintro e w4 ⟨rfl, hB⟩
              have HW := Lib.hid (HW.out.trans (hB.mono HW.out.size))
              clear hB
              go_wp2_with fail
              refine (lives_calls _).mono ?_
              rintro e x9 ⟨rfl, hB⟩
              have HX9 := Lib.hid (HW.out.trans (hB.mono HW.out.size))
              clear hB
              go_wp2_with fail
              go_ret
              exact ⟨rfl, HX9.out⟩
end Go.Proofs.Ytplafgmceggcnaa
