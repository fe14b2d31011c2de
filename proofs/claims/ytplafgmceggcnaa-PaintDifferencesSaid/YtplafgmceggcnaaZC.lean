/- What is proved: the law of Clique. No condition beyond those in each statement. -/
import Derived.Test.YtplafgmceggcnaaZA
import Derived.Test.YtplafgmceggcnaaZB
namespace Go.Proofs.Ytplafgmceggcnaa
open Go.RowKit

theorem CliqueR_err {n color k : Int} {cs : List Int} (h : ¬((1 ≤ n ∧ n ≤ 8) ∧ (0 ≤ color ∧ color ≤ 1) ∧ (1 ≤ k ∧ k ≤ 4))) : CliqueR n cs color k = (none, 1) := by
  unfold CliqueR
  rw [if_pos]
  simp only [Bool.or_eq_true, decide_eq_true_eq]
  omega
theorem CliqueR_form {n : Nat} {color k : Int} {cs : List Int} (h : (1 ≤ n ∧ n ≤ 8) ∧ (0 ≤ color ∧ color ≤ 1) ∧ (1 ≤ k ∧ k ≤ 4)) (hf : (decide ((cs.length : Int) = (npairs n : Nat)) && inRange 2 cs) = false) : CliqueR n cs color k = (none, 2) := by
  unfold CliqueR
  rw [if_neg (by simp only [Bool.or_eq_true, decide_eq_true_eq]; omega), if_pos]
  rw [Int.toNat_natCast, Bool.not_eq_true']
  rw [← hf]
  congr 1
  exact decide_eq_decide.2 (by omega)
theorem CliqueR_ok {n : Nat} {color : Int} {k : Nat} {cs : List Int} (h : (1 ≤ n ∧ n ≤ 8) ∧ (0 ≤ color ∧ color ≤ 1) ∧ (1 ≤ k ∧ k ≤ 4)) (hf : (decide ((cs.length : Int) = (npairs n : Nat)) && inRange 2 cs) = true) : CliqueR n cs color k = (cliqueF (okP cs n color) n k [], foundR (cliqueF (okP cs n color) n k [])) := by
  unfold CliqueR
  rw [if_neg (by simp only [Bool.or_eq_true, decide_eq_true_eq]; omega), if_neg]
  · rw [Int.toNat_natCast, Int.toNat_natCast]
  · rw [Int.toNat_natCast, Bool.not_eq_true', Bool.not_eq_false]
    rw [← hf]
    congr 1
    exact decide_eq_decide.2 (by omega)
theorem box_arr2 (w : World) (v0 v1 : Value) (t : Nat) : (w.alloc (.cells #[v0, v1] t)).cell? ⟨w.heap.size, 0, none⟩ = some v0 ∧ (w.alloc (.cells #[v0, v1] t)).cell? ⟨w.heap.size, 1, none⟩ = some v1 := by
  refine ⟨?_, ?_⟩ <;> (rw [World.cell?_alloc_at _ _ _ _ rfl]; rfl)

set_option maxHeartbeats 16000000 in
theorem cliqueslaw_calls (A : Option Addr) (nx cx : Nat) (xs : List Int) (n color k : Int) (w : World) (hn : nx = xs.length) (hA : Rd w A xs) (hl : nx ≤ cx) (hc : cx ≤ 9223372036854775807) (hnone : A = none → cx = 0) :
    Calls Try.prog 3 #[.int .i64 n, .slice A nx cx, .agg #[.int .i64 color, .int .i64 k]] w fun e w' => e = .returned (.bool true) ∧ Below w.heap.size w w' := by
  have qT : ∀ (w : World) (a : Option Addr) (n c n' c' : Nat), (binOp .eql 22 (.slice a n c) (.slice none n' c')).run Try.prog w = .ok (.bool a.isNone) w := fun w a n c n' c' => Lib.run_eql_slice_nil w _ _ a n c n' c' Try.underlying22
  obtain ⟨ys, hys⟩ : ∃ ys, ys = xs.take 29 := ⟨_, rfl⟩
  have hys29 : ys.length ≤ 29 := by rw [hys, List.length_take]; omega
  obtain ⟨m, hm⟩ : ∃ m, m = ys.length := ⟨_, rfl⟩
  obtain ⟨wa, hwa⟩ : ∃ wa, wa = w.alloc (.cells #[.int .i64 color, .int .i64 k] 23) := ⟨_, rfl⟩
  have hBa : Below w.heap.size w wa := by rw [hwa]; exact (Below.refl _ _).alloc (Nat.le_refl _) _
  have hlt : w.heap.size < wa.heap.size := by rw [hwa]; simp
  have hbx := box_arr2 w (.int .i64 color) (.int .i64 k) 23
  have D0 : Hid (wa.cell? ⟨w.heap.size, 0, none⟩ = some (.int .i64 color)) := by rw [hwa]; exact hbx.1
  have D1 : Hid (wa.cell? ⟨w.heap.size, 1, none⟩ = some (.int .i64 k)) := by rw [hwa]; exact hbx.2
  obtain ⟨d0, d1⟩ := hbx
  have CC := Lib.hid (cut_calls2 A nx cx xs ys m hys hm wa hn (hA.below hBa) hl hc hnone)
  have HBa := Lib.hid hBa
  have HWA := Lib.hid hwa
  have HL := Lib.hid hm
  clear hn hA hys hnone hwa hBa
  have hE : ¬((1 ≤ n ∧ n ≤ 8) ∧ (0 ≤ color ∧ color ≤ 1) ∧ (1 ≤ k ∧ k ≤ 4)) → CliqueR n ys color k = (none, 1) := CliqueR_err
  cases b1 : inB n 1 8
  · have HB1 := Lib.hid b1
    have HCR := Lib.hid (hE (by rintro ⟨h, _⟩; simp [inB] at b1; omega))
    clear b1 hE hm
    go_enter Try.func3, Try.ntmps3
    go_wp2_with fail
    rw [← HWA.out]
    refine CC.out.mono ?_
    rintro e w1 ⟨A1, c1, rfl, hc1, hc2, hrd, hB⟩
    have HR1 := Lib.hid hrd
    have HW := Lib.hid hB
    clear hrd d0 d1 hB
    have d0 := (HW.out.cell (p := ⟨w.heap.size, 0, none⟩) hlt).trans D0.out
    have d1 := (HW.out.cell (p := ⟨w.heap.size, 1, none⟩) hlt).trans D1.out
    go_wp2_with fail
    refine (Clique_calls n color k A1 m c1 ys w1 HL.out HR1.out hc1 hc2).mono ?_
    rw [HCR.out]
    rintro e w2 ⟨v, rfl, ho, hB⟩
    obtain rfl : v = .slice none 0 0 := ho
    have HR2 := Lib.hid (HR1.out.below hB)
    have HW := Lib.hid (HW.out.trans (hB.mono HW.out.size))
    clear d0 d1 hB
    have d0 := (HW.out.cell (p := ⟨w.heap.size, 0, none⟩) hlt).trans D0.out
    have d1 := (HW.out.cell (p := ⟨w.heap.size, 1, none⟩) hlt).trans D1.out
    go_wp2_with fail
    refine (in_calls _ _ _ _).mono ?_
    rw [HB1.out]
    rintro e u1 ⟨rfl, rfl⟩
    go_wp2_with fail
    refine (lives_calls _).mono ?_
    rintro e x9 ⟨rfl, hB⟩
    have HX9 := Lib.hid (HBa.out.trans ((HW.out.trans (hB.mono HW.out.size)).mono HBa.out.size))
    clear d0 d1 hB
    go_wp2_with fail
    go_ret
    exact ⟨rfl, HX9.out⟩
  · cases b2 : inB color 0 1
    · have HB1 := Lib.hid b1
      have HB2 := Lib.hid b2
      have HCR := Lib.hid (hE (by rintro ⟨_, h, _⟩; simp [inB] at b2; omega))
      clear b1 b2 hE hm
      go_enter Try.func3, Try.ntmps3
      go_wp2_with fail
      rw [← HWA.out]
      refine CC.out.mono ?_
      rintro e w1 ⟨A1, c1, rfl, hc1, hc2, hrd, hB⟩
      have HR1 := Lib.hid hrd
      have HW := Lib.hid hB
      clear hrd d0 d1 hB
      have d0 := (HW.out.cell (p := ⟨w.heap.size, 0, none⟩) hlt).trans D0.out
      have d1 := (HW.out.cell (p := ⟨w.heap.size, 1, none⟩) hlt).trans D1.out
      go_wp2_with fail
      refine (Clique_calls n color k A1 m c1 ys w1 HL.out HR1.out hc1 hc2).mono ?_
      rw [HCR.out]
      rintro e w2 ⟨v, rfl, ho, hB⟩
      obtain rfl : v = .slice none 0 0 := ho
      have HR2 := Lib.hid (HR1.out.below hB)
      have HW := Lib.hid (HW.out.trans (hB.mono HW.out.size))
      clear d0 d1 hB
      have d0 := (HW.out.cell (p := ⟨w.heap.size, 0, none⟩) hlt).trans D0.out
      have d1 := (HW.out.cell (p := ⟨w.heap.size, 1, none⟩) hlt).trans D1.out
      go_wp2_with fail
      refine (in_calls _ _ _ _).mono ?_
      rw [HB1.out]
      rintro e u1 ⟨rfl, rfl⟩
      go_wp2_with fail
      refine (in_calls _ _ _ _).mono ?_
      rw [HB2.out]
      rintro e u2 ⟨rfl, rfl⟩
      go_wp2_with fail
      refine (lives_calls _).mono ?_
      rintro e x9 ⟨rfl, hB⟩
      have HX9 := Lib.hid (HBa.out.trans ((HW.out.trans (hB.mono HW.out.size)).mono HBa.out.size))
      clear d0 d1 hB
      go_wp2_with fail
      go_ret
      exact ⟨rfl, HX9.out⟩
    · cases b3 : inB k 1 4
      · have HB1 := Lib.hid b1
        have HB2 := Lib.hid b2
        have HB3 := Lib.hid b3
        have HCR := Lib.hid (hE (by rintro ⟨_, _, h⟩; simp [inB] at b3; omega))
        clear b1 b2 b3 hE hm
        go_enter Try.func3, Try.ntmps3
        go_wp2_with fail
        rw [← HWA.out]
        refine CC.out.mono ?_
        rintro e w1 ⟨A1, c1, rfl, hc1, hc2, hrd, hB⟩
        have HR1 := Lib.hid hrd
        have HW := Lib.hid hB
        clear hrd d0 d1 hB
        have d0 := (HW.out.cell (p := ⟨w.heap.size, 0, none⟩) hlt).trans D0.out
        have d1 := (HW.out.cell (p := ⟨w.heap.size, 1, none⟩) hlt).trans D1.out
        go_wp2_with fail
        refine (Clique_calls n color k A1 m c1 ys w1 HL.out HR1.out hc1 hc2).mono ?_
        rw [HCR.out]
        rintro e w2 ⟨v, rfl, ho, hB⟩
        obtain rfl : v = .slice none 0 0 := ho
        have HR2 := Lib.hid (HR1.out.below hB)
        have HW := Lib.hid (HW.out.trans (hB.mono HW.out.size))
        clear d0 d1 hB
        have d0 := (HW.out.cell (p := ⟨w.heap.size, 0, none⟩) hlt).trans D0.out
        have d1 := (HW.out.cell (p := ⟨w.heap.size, 1, none⟩) hlt).trans D1.out
        go_wp2_with fail
        refine (in_calls _ _ _ _).mono ?_
        rw [HB1.out]
        rintro e u1 ⟨rfl, rfl⟩
        go_wp2_with fail
        refine (in_calls _ _ _ _).mono ?_
        rw [HB2.out]
        rintro e u2 ⟨rfl, rfl⟩
        go_wp2_with fail
        refine (in_calls _ _ _ _).mono ?_
        rw [HB3.out]
        rintro e u3 ⟨rfl, rfl⟩
        go_wp2_with fail
        refine (lives_calls _).mono ?_
        rintro e x9 ⟨rfl, hB⟩
        have HX9 := Lib.hid (HBa.out.trans ((HW.out.trans (hB.mono HW.out.size)).mono HBa.out.size))
        clear d0 d1 hB
        go_wp2_with fail
        go_ret
        exact ⟨rfl, HX9.out⟩
      · have HB1 := Lib.hid b1
        have HB2 := Lib.hid b2
        have HB3 := Lib.hid b3
        simp [inB] at b1 b2 b3
        obtain ⟨nn, hnn⟩ : ∃ q : Nat, n = q := ⟨n.toNat, by omega⟩
        obtain ⟨kk, hkk⟩ : ∃ q : Nat, k = q := ⟨k.toNat, by omega⟩
        subst hnn hkk
        have n8 : nn ≤ 8 := by omega
        obtain ⟨np, hnp⟩ : ∃ q, q = npairs nn := ⟨_, rfl⟩
        have hnp2 : np ≤ 28 := by rw [hnp]; exact npairs_le nn n8
        have hmm := npairs_mul nn n8
        rw [← hnp] at hmm
        have wm1 : IntKind.i64.wrap ((nn : Int) * ((nn : Int) - 1)) = 2 * (np : Int) := by rw [hmm]; exact IntWalk.i64_in _ (by omega)
        have wm2 : Int.tdiv (2 * (np : Int)) 2 = np := Int.mul_tdiv_cancel_left _ (by decide)
        have hrg : (1 ≤ nn ∧ nn ≤ 8) ∧ (0 ≤ color ∧ color ≤ 1) ∧ (1 ≤ (kk : Int) ∧ (kk : Int) ≤ 4) := by omega
        cases hf : (decide ((m : Int) = (np : Int)) && inRange 2 ys)
        · have HCR := Lib.hid (CliqueR_form (cs := ys) hrg (by rw [← hm, ← hnp]; exact hf))
          have HF := Lib.hid hf
          clear hf hE hm hnp hmm b1 b2 b3
          go_enter Try.func3, Try.ntmps3
          go_wp2_with fail
          rw [← HWA.out]
          refine CC.out.mono ?_
          rintro e w1 ⟨A1, c1, rfl, hc1, hc2, hrd, hB⟩
          have HR1 := Lib.hid hrd
          have HW := Lib.hid hB
          clear hrd d0 d1 hB
          have d0 := (HW.out.cell (p := ⟨w.heap.size, 0, none⟩) hlt).trans D0.out
          have d1 := (HW.out.cell (p := ⟨w.heap.size, 1, none⟩) hlt).trans D1.out
          go_wp2_with fail
          refine (Clique_calls nn color kk A1 m c1 ys w1 HL.out HR1.out hc1 hc2).mono ?_
          rw [HCR.out]
          rintro e w2 ⟨v, rfl, ho, hB⟩
          obtain rfl : v = .slice none 0 0 := ho
          have HR2 := Lib.hid (HR1.out.below hB)
          have HW := Lib.hid (HW.out.trans (hB.mono HW.out.size))
          clear d0 d1 hB
          have d0 := (HW.out.cell (p := ⟨w.heap.size, 0, none⟩) hlt).trans D0.out
          have d1 := (HW.out.cell (p := ⟨w.heap.size, 1, none⟩) hlt).trans D1.out
          go_wp2_with fail
          refine (in_calls _ _ _ _).mono ?_
          rw [HB1.out]
          rintro e u1 ⟨rfl, rfl⟩
          go_wp2_with fail
          refine (in_calls _ _ _ _).mono ?_
          rw [HB2.out]
          rintro e u2 ⟨rfl, rfl⟩
          go_wp2_with fail
          refine (in_calls _ _ _ _).mono ?_
          rw [HB3.out]
          rintro e u3 ⟨rfl, rfl⟩
          go_wp2_with fail
          refine (colors_calls A1 m c1 ys np 2 w2 HL.out HR2.out hc1 hc2 (by omega)).mono ?_
          rw [HF.out]
          rintro e u9 ⟨rfl, rfl⟩
          go_wp2_with fail
          refine (lives_calls _).mono ?_
          rintro e x9 ⟨rfl, hB⟩
          have HX9 := Lib.hid (HBa.out.trans ((HW.out.trans (hB.mono HW.out.size)).mono HBa.out.size))
          clear d0 d1 hB
          go_wp2_with fail
          go_ret
          exact ⟨rfl, HX9.out⟩
        · have hcr := CliqueR_ok (cs := ys) (color := color) (k := kk) (n := nn) (by omega) (by rw [← hm, ← hnp]; exact hf)
          have hlen : ys.length = npairs nn := by
            rw [Bool.and_eq_true, decide_eq_true_eq] at hf
            omega
          have HPL := Lib.hid (fun u v : Int => placeZ_lt (n := nn) n8 (cs := ys) hlen u v)
          have HF := Lib.hid hf
          clear hf hE hm hnp hmm hlen
          cases hq : cliqueF (okP ys nn color) nn kk [] with
          | none =>
            rw [hq] at hcr
            have HCR : Hid (CliqueR nn ys color kk = (none, 5)) := hcr
            have HQ := Lib.hid hq
            clear hq hcr
            go_enter Try.func3, Try.ntmps3
            go_wp2_with fail
            rw [← HWA.out]
            refine CC.out.mono ?_
            rintro e w1 ⟨A1, c1, rfl, hc1, hc2, hrd, hB⟩
            have HR1 := Lib.hid hrd
            have HW := Lib.hid hB
            clear hrd d0 d1 hB
            have d0 := (HW.out.cell (p := ⟨w.heap.size, 0, none⟩) hlt).trans D0.out
            have d1 := (HW.out.cell (p := ⟨w.heap.size, 1, none⟩) hlt).trans D1.out
            go_wp2_with fail
            refine (Clique_calls nn color kk A1 m c1 ys w1 HL.out HR1.out hc1 hc2).mono ?_
            rw [HCR.out]
            rintro e w2 ⟨v, rfl, ho, hB⟩
            obtain rfl : v = .slice none 0 0 := ho
            have HR2 := Lib.hid (HR1.out.below hB)
            have HW := Lib.hid (HW.out.trans (hB.mono HW.out.size))
            clear d0 d1 hB
            have d0 := (HW.out.cell (p := ⟨w.heap.size, 0, none⟩) hlt).trans D0.out
            have d1 := (HW.out.cell (p := ⟨w.heap.size, 1, none⟩) hlt).trans D1.out
            go_wp2_with fail
            refine (in_calls _ _ _ _).mono ?_
            rw [HB1.out]
            rintro e u1 ⟨rfl, rfl⟩
            go_wp2_with fail
            refine (in_calls _ _ _ _).mono ?_
            rw [HB2.out]
            rintro e u2 ⟨rfl, rfl⟩
            go_wp2_with fail
            refine (in_calls _ _ _ _).mono ?_
            rw [HB3.out]
            rintro e u3 ⟨rfl, rfl⟩
            go_wp2_with fail
            refine (colors_calls A1 m c1 ys np 2 w2 HL.out HR2.out hc1 hc2 (by omega)).mono ?_
            rw [HF.out]
            rintro e u9 ⟨rfl, rfl⟩
            go_wp2_with fail
            refine (refclique_calls nn n8 ys color A1 m c1 HL.out hc1 hc2 HPL.out kk [] kk none 0 0 w2 rfl (by simp) (by simp; omega) (by simp; omega) ⟨Nat.zero_le _, by simp⟩ HR2.out (fun h => absurd rfl h) (Nat.le_refl _) (by decide) (fun _ => rfl)).mono ?_
            rw [HQ.out]
            rintro e w3 ⟨v, rfl, ho, hB⟩
            obtain rfl : v = .slice none 0 0 := ho
            have HW := Lib.hid (HW.out.trans (hB.mono HW.out.size))
            clear d0 d1 hB
            have d0 := (HW.out.cell (p := ⟨w.heap.size, 0, none⟩) hlt).trans D0.out
            have d1 := (HW.out.cell (p := ⟨w.heap.size, 1, none⟩) hlt).trans D1.out
            go_wp2_with fail
            refine (found_none _).mono ?_
            rintro e w4 ⟨rfl, hB⟩
            have HW := Lib.hid (HW.out.trans (hB.mono HW.out.size))
            clear d0 d1 hB
            have d0 := (HW.out.cell (p := ⟨w.heap.size, 0, none⟩) hlt).trans D0.out
            have d1 := (HW.out.cell (p := ⟨w.heap.size, 1, none⟩) hlt).trans D1.out
            go_wp2_with fail
            refine (lives_calls _).mono ?_
            rintro e x9 ⟨rfl, hB⟩
            have HX9 := Lib.hid (HBa.out.trans ((HW.out.trans (hB.mono HW.out.size)).mono HBa.out.size))
            clear d0 d1 hB
            go_wp2_with fail
            go_ret
            exact ⟨rfl, HX9.out⟩
          | some q =>
            rw [hq] at hcr
            have HCR : Hid (CliqueR nn ys color kk = (some q, 0)) := hcr
            have HQ := Lib.hid hq
            clear hq hcr
            go_enter Try.func3, Try.ntmps3
            go_wp2_with fail
            rw [← HWA.out]
            refine CC.out.mono ?_
            rintro e w1 ⟨A1, c1, rfl, hc1, hc2, hrd, hB⟩
            have HR1 := Lib.hid hrd
            have HW := Lib.hid hB
            clear hrd d0 d1 hB
            have d0 := (HW.out.cell (p := ⟨w.heap.size, 0, none⟩) hlt).trans D0.out
            have d1 := (HW.out.cell (p := ⟨w.heap.size, 1, none⟩) hlt).trans D1.out
            go_wp2_with fail
            refine (Clique_calls nn color kk A1 m c1 ys w1 HL.out HR1.out hc1 hc2).mono ?_
            rw [HCR.out]
            rintro e w2 ⟨v, rfl, ho, hB⟩
            obtain ⟨⟨sa, sn, sc, rfl⟩, hs⟩ := ho
            obtain ⟨sA, sN, sC, e', g1, g2, g3, g4⟩ := hs.parts
            cases e'
            have HS1 := Lib.hid g1
            have HS4 := Lib.hid g4
            have HR2 := Lib.hid (HR1.out.below hB)
            clear hs g1 g4
            have HW := Lib.hid (HW.out.trans (hB.mono HW.out.size))
            clear d0 d1 hB
            have d0 := (HW.out.cell (p := ⟨w.heap.size, 0, none⟩) hlt).trans D0.out
            have d1 := (HW.out.cell (p := ⟨w.heap.size, 1, none⟩) hlt).trans D1.out
            go_wp2_with fail
            refine (in_calls _ _ _ _).mono ?_
            rw [HB1.out]
            rintro e u1 ⟨rfl, rfl⟩
            go_wp2_with fail
            refine (in_calls _ _ _ _).mono ?_
            rw [HB2.out]
            rintro e u2 ⟨rfl, rfl⟩
            go_wp2_with fail
            refine (in_calls _ _ _ _).mono ?_
            rw [HB3.out]
            rintro e u3 ⟨rfl, rfl⟩
            go_wp2_with fail
            refine (colors_calls A1 m c1 ys np 2 w2 HL.out HR2.out hc1 hc2 (by omega)).mono ?_
            rw [HF.out]
            rintro e u9 ⟨rfl, rfl⟩
            go_wp2_with fail
            refine (refclique_calls nn n8 ys color A1 m c1 HL.out hc1 hc2 HPL.out kk [] kk none 0 0 w2 rfl (by simp) (by simp; omega) (by simp; omega) ⟨Nat.zero_le _, by simp⟩ HR2.out (fun h => absurd rfl h) (Nat.le_refl _) (by decide) (fun _ => rfl)).mono ?_
            rw [HQ.out]
            rintro e w3 ⟨v, rfl, ho, hB⟩
            have HO := Lib.hid ho
            have HS5 := Lib.hid (HS4.out.below hB)
            obtain ⟨⟨va, vn, vc, rfl⟩, _⟩ := ho
            have HW := Lib.hid (HW.out.trans (hB.mono HW.out.size))
            clear d0 d1 hB
            have d0 := (HW.out.cell (p := ⟨w.heap.size, 0, none⟩) hlt).trans D0.out
            have d1 := (HW.out.cell (p := ⟨w.heap.size, 1, none⟩) hlt).trans D1.out
            go_wp2_with fail
            refine (found_some (some sa) sn sc q _ _ HS1.out HS5.out g2 g3 HO.out).mono ?_
            rintro e w4 ⟨rfl, hB⟩
            have HW := Lib.hid (HW.out.trans (hB.mono HW.out.size))
            clear d0 d1 hB
            have d0 := (HW.out.cell (p := ⟨w.heap.size, 0, none⟩) hlt).trans D0.out
            have d1 := (HW.out.cell (p := ⟨w.heap.size, 1, none⟩) hlt).trans D1.out
            go_wp2_with fail
            refine (lives_calls _).mono ?_
            rintro e x9 ⟨rfl, hB⟩
            have HX9 := Lib.hid (HBa.out.trans ((HW.out.trans (hB.mono HW.out.size)).mono HBa.out.size))
            clear d0 d1 hB
            go_wp2_with fail
            go_ret
            exact ⟨rfl, HX9.out⟩
end Go.Proofs.Ytplafgmceggcnaa
