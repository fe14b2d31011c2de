/- What is proved: the law of Stepless (contracts of functions of paint, and what they need). No condition beyond those in each statement. -/
import Derived.Test.YtplafgmceggcnaaV
namespace Go.Proofs.Ytplafgmceggcnaa
open Go.RowKit

theorem found_none (w : World) : Calls Try.prog 21 #[.slice none 0 0, .int .i64 5, .slice none 0 0] w fun e w' => e = .returned (.bool true) ∧ Below w.heap.size w w' := by
  have qT : ∀ (w : World) (a : Option Addr) (n c n' c' : Nat), (binOp .eql 22 (.slice a n c) (.slice none n' c')).run Try.prog w = .ok (.bool a.isNone) w := fun w a n c n' c' => Lib.run_eql_slice_nil w _ _ a n c n' c' Try.underlying22
  go_enter Try.func21, Try.ntmps21
  go_wp2_with fail
  go_ret
  exact ⟨rfl, Below.refl _ _⟩

theorem found_some (A : Option Addr) (n c : Nat) (xs : List Int) (v : Value) (w : World) (hn : n = xs.length) (hA : Rd w A xs) (h1 : n ≤ c) (h2 : c ≤ 9223372036854775807) (hv : OptSl w v (some xs)) :
    Calls Try.prog 21 #[.slice A n c, .int .i64 0, v] w fun e w' => e = .returned (.bool true) ∧ Below w.heap.size w w' := by
  have qT : ∀ (w : World) (a : Option Addr) (n c n' c' : Nat), (binOp .eql 22 (.slice a n c) (.slice none n' c')).run Try.prog w = .ok (.bool a.isNone) w := fun w a n c n' c' => Lib.run_eql_slice_nil w _ _ a n c n' c' Try.underlying22
  obtain ⟨⟨a, m, d, rfl⟩, hs⟩ := hv
  obtain ⟨A', m', d', e', g1, g2, g3, g4⟩ := hs.parts
  cases e'
  have C := Lib.hid (same_calls A (some a) n c m d xs xs w hn hA h1 h2 g1 g4 g2 g3)
  clear hn hA hs g1 g4
  go_enter Try.func21, Try.ntmps21
  go_wp2_with fail
  refine C.out.mono ?_
  rintro e w1 ⟨rfl, hB⟩
  have HB := Lib.hid hB
  clear hB
  go_wp2_with fail
  go_ret
  exact ⟨rfl, HB.out⟩

/-- The reference's search is the program's. -/
theorem refS_leaves (below : Nat) (bad : List Int → Bool) : ∀ (f : Nat) (l : List Int), bad l = false → refS below bad f l = (leaves below (fun l => !bad l) f l).head? := by
  intro f
  induction f with
  | zero => intro l h; rw [refS_zero h]; rfl
  | succ f ih =>
    intro l h
    rw [refS_succ h, leaves_succ]
    have key : ∀ (d c : Nat), c + d = below → firstFrom (fun c => refS below bad f (l ++ [(c : Int)])) d c = (leavesFrom below (fun l => !bad l) f l c).head? := by
      intro d
      induction d with
      | zero => intro c hc; rw [leavesFrom_end (by omega)]; rfl
      | succ d ihd =>
        intro c hc
        rw [leavesFrom_step (by omega), List.head?_append]
        cases hb : bad (l ++ [(c : Int)])
        · rw [if_pos (by simp), ← ih _ hb, ← ihd (c + 1) (by omega)]
          cases hr : refS below bad f (l ++ [(c : Int)]) with
          | none => exact firstFrom_none hr
          | some q => exact firstFrom_some hr
        · rw [if_neg (by simp), ← ihd (c + 1) (by omega)]
          exact firstFrom_none (refS_bad hb)
    exact key below 0 (by omega)

theorem ow_new_rd (w : World) : Rd (w.alloc (.cells #[] 3)) (some ⟨w.heap.size, 0, none⟩) [] := fun h => absurd rfl h

theorem ref_stepless (n r k : Nat) : refS r (fun l => (progF l k).isSome) n [] = (steplessL n r k).head? := by
  rw [refS_leaves]
  · unfold steplessL; congr 2; funext l; cases progF l k <;> rfl
  · rfl

set_option maxHeartbeats 4000000 in
theorem steplesslaw_calls (n r k : Int) (w : World) : Calls Try.prog 7 #[.int .i64 n, .int .i64 r, .int .i64 k] w fun e w' => e = .returned (.bool true) ∧ Below w.heap.size w w' := by
  have qT : ∀ (w : World) (a : Option Addr) (n c n' c' : Nat), (binOp .eql 22 (.slice a n c) (.slice none n' c')).run Try.prog w = .ok (.bool a.isNone) w := fun w a n c n' c' => Lib.run_eql_slice_nil w _ _ a n c n' c' Try.underlying22
  have C1 := Lib.hid (stepless_calls n r k w)
  have hE : ¬((1 ≤ n ∧ n ≤ 20) ∧ (1 ≤ r ∧ r ≤ 3) ∧ (k = 3 ∨ k = 4)) → SteplessR n r k = .error 1 := SteplessR_err
  have hO := @SteplessR_ok n.toNat r.toNat k.toNat
  cases b1 : inB n 1 20
  · have HB1 := Lib.hid b1
    have HE := Lib.hid (hE (by rintro ⟨h, _⟩; simp [inB] at b1; omega))
    clear b1 hE hO
    go_enter Try.func7, Try.ntmps7
    go_wp2_with fail
    refine C1.out.mono ?_
    rw [HE.out]
    rintro e w1 ⟨rfl, hB⟩
    have HW := Lib.hid hB
    clear hB
    go_wp2_with fail
    refine (in_calls _ _ _ _).mono ?_
    rw [HB1.out]
    rintro e w2 ⟨rfl, rfl⟩
    go_wp2_with fail
    refine (lives_calls _).mono ?_
    rintro e x3 ⟨rfl, hB⟩
    have HX3 := Lib.hid (HW.out.trans (hB.mono HW.out.size))
    clear hB
    go_wp2_with fail
    go_ret
    exact ⟨rfl, HX3.out⟩
  · cases b2 : inB r 1 3
    · have HB1 := Lib.hid b1
      have HB2 := Lib.hid b2
      have HE := Lib.hid (hE (by rintro ⟨_, h, _⟩; simp [inB] at b2; omega))
      clear b1 b2 hE hO
      go_enter Try.func7, Try.ntmps7
      go_wp2_with fail
      refine C1.out.mono ?_
      rw [HE.out]
      rintro e w1 ⟨rfl, hB⟩
      have HW := Lib.hid hB
      clear hB
      go_wp2_with fail
      refine (in_calls _ _ _ _).mono ?_
      rw [HB1.out]
      rintro e w2 ⟨rfl, rfl⟩
      go_wp2_with fail
      refine (in_calls _ _ _ _).mono ?_
      rw [HB2.out]
      rintro e w2 ⟨rfl, rfl⟩
      go_wp2_with fail
      refine (lives_calls _).mono ?_
      rintro e x3 ⟨rfl, hB⟩
      have HX3 := Lib.hid (HW.out.trans (hB.mono HW.out.size))
      clear hB
      go_wp2_with fail
      go_ret
      exact ⟨rfl, HX3.out⟩
    · cases b3 : (k != 3)
      rotate_left
      · cases b4 : (k != 4)
        rotate_left
        · have HB1 := Lib.hid b1
          have HB2 := Lib.hid b2
          have HE := Lib.hid (hE (by rintro ⟨_, _, h⟩; simp at b3 b4; omega))
          clear b1 b2 hE hO
          go_enter Try.func7, Try.ntmps7
          go_wp2_with fail
          refine C1.out.mono ?_
          rw [HE.out]
          rintro e w1 ⟨rfl, hB⟩
          have HW := Lib.hid hB
          clear hB
          go_wp2_with fail
          refine (in_calls _ _ _ _).mono ?_
          rw [HB1.out]
          rintro e w2 ⟨rfl, rfl⟩
          go_wp2_with fail
          refine (in_calls _ _ _ _).mono ?_
          rw [HB2.out]
          rintro e w2 ⟨rfl, rfl⟩
          go_wp2_with fail
          refine (lives_calls _).mono ?_
          rintro e x3 ⟨rfl, hB⟩
          have HX3 := Lib.hid (HW.out.trans (hB.mono HW.out.size))
          clear hB
          go_wp2_with fail
          go_ret
          exact ⟨rfl, HX3.out⟩
        · simp [inB] at b1 b2 b3 b4
          obtain ⟨m, rfl⟩ : ∃ m : Nat, n = m := ⟨n.toNat, by omega⟩
          obtain ⟨s, rfl⟩ : ∃ m : Nat, r = m := ⟨r.toNat, by omega⟩
          obtain ⟨t, rfl⟩ : ∃ m : Nat, k = m := ⟨k.toNat, by omega⟩
          have HE := Lib.hid (hO (by simp; omega))
          simp only [Int.toNat_natCast] at HE
          have HB1 : Hid (inB m 1 20 = true) := by show _ = _; simp [inB]; omega
          have HB2 : Hid (inB s 1 3 = true) := by show _ = _; simp [inB]; omega
          have CR := Lib.hid (fun (W : World) => refstepless_calls m s t (by omega) (by omega) (by omega) m ⟨W.heap.size, 0, none⟩ 0 0 [] (W.alloc (.cells #[] 3)) rfl (by omega) (ow_new_rd W) (Nat.le_refl _) (by decide))
          have HREF := Lib.hid (ref_stepless m s t)
          obtain ⟨q, hq⟩ : ∃ q, q = (steplessL m s t).head? := ⟨_, rfl⟩
          rw [← hq] at HE HREF
          clear hq hE hO
          have hb3 : ((t : Int) != 3) = true ∧ ((t : Int) != 4) = false := by simp; omega
          obtain ⟨hb3, hb4⟩ := hb3
          clear b1 b2 b3 b4
          go_enter Try.func7, Try.ntmps7
          go_wp2_with fail
          refine C1.out.mono ?_
          rw [HE.out]
          cases q with
          | none =>
            rintro e w1 ⟨rfl, hB⟩
            have HW := Lib.hid hB
            clear hB
            go_wp2_with fail
            refine (in_calls _ _ _ _).mono ?_
            rw [HB1.out]
            rintro e w2 ⟨rfl, rfl⟩
            go_wp2_with fail
            refine (in_calls _ _ _ _).mono ?_
            rw [HB2.out]
            rintro e w2 ⟨rfl, rfl⟩
            go_wp2_with fail
            refine (CR.out _).mono ?_
            rw [HREF.out]
            rintro e w3 ⟨v, rfl, ho, hB⟩
            obtain rfl : v = .slice none 0 0 := ho
            have HW2 := Lib.hid (HW.out.trans ((((Below.refl _ _).alloc (Nat.le_refl _) _).trans (hB.mono (by simp))).mono HW.out.size))
            clear hB
            go_wp2_with fail
            refine (found_none _).mono ?_
            rintro e w4 ⟨rfl, hB⟩
            have HW3 := Lib.hid (HW2.out.trans (hB.mono HW2.out.size))
            clear hB
            go_wp2_with fail
            refine (lives_calls _).mono ?_
            rintro e x5 ⟨rfl, hB⟩
            have HX5 := Lib.hid (HW3.out.trans (hB.mono HW3.out.size))
            clear hB
            go_wp2_with fail
            go_ret
            exact ⟨rfl, HX5.out⟩
          | some ys =>
            rintro e w1 ⟨A, nn, cc, rfl, hn, h1, h2, hrd, hB⟩
            have HN := Lib.hid hn
            have HRD := Lib.hid hrd
            have HW := Lib.hid hB
            clear hB hn hrd
            go_wp2_with fail
            refine (in_calls _ _ _ _).mono ?_
            rw [HB1.out]
            rintro e w2 ⟨rfl, rfl⟩
            go_wp2_with fail
            refine (in_calls _ _ _ _).mono ?_
            rw [HB2.out]
            rintro e w2 ⟨rfl, rfl⟩
            go_wp2_with fail
            refine (CR.out _).mono ?_
            rw [HREF.out]
            rintro e w3 ⟨v, rfl, ho, hB⟩
            have HO := Lib.hid ho
            have HB3 : Hid (Below w1.heap.size w1 w3) := ((Below.refl _ _).alloc (Nat.le_refl _) _).trans (hB.mono (by simp))
            have HW2 := Lib.hid (HW.out.trans (HB3.out.mono HW.out.size))
            clear hB
            obtain ⟨⟨va, vn, vc, rfl⟩, _⟩ := ho
            go_wp2_with fail
            refine (found_some A nn cc ys _ _ HN.out (HRD.out.below HB3.out) h1 h2 HO.out).mono ?_
            rintro e w4 ⟨rfl, hB⟩
            have HW3 := Lib.hid (HW2.out.trans (hB.mono HW2.out.size))
            clear hB
            go_wp2_with fail
            refine (lives_calls _).mono ?_
            rintro e x5 ⟨rfl, hB⟩
            have HX5 := Lib.hid (HW3.out.trans (hB.mono HW3.out.size))
            clear hB
            go_wp2_with fail
            go_ret
            exact ⟨rfl, HX5.out⟩
      · simp [inB] at b1 b2 b3
        obtain ⟨m, rfl⟩ : ∃ m : Nat, n = m := ⟨n.toNat, by omega⟩
        obtain ⟨s, rfl⟩ : ∃ m : Nat, r = m := ⟨r.toNat, by omega⟩
        obtain ⟨t, rfl⟩ : ∃ m : Nat, k = m := ⟨k.toNat, by omega⟩
        have HE := Lib.hid (hO (by simp; omega))
        simp only [Int.toNat_natCast] at HE
        have HB1 : Hid (inB m 1 20 = true) := by show _ = _; simp [inB]; omega
        have HB2 : Hid (inB s 1 3 = true) := by show _ = _; simp [inB]; omega
        have CR := Lib.hid (fun (W : World) => refstepless_calls m s t (by omega) (by omega) (by omega) m ⟨W.heap.size, 0, none⟩ 0 0 [] (W.alloc (.cells #[] 3)) rfl (by omega) (ow_new_rd W) (Nat.le_refl _) (by decide))
        have HREF := Lib.hid (ref_stepless m s t)
        obtain ⟨q, hq⟩ : ∃ q, q = (steplessL m s t).head? := ⟨_, rfl⟩
        rw [← hq] at HE HREF
        clear hq hE hO
        have hb3 : ((t : Int) != 3) = false := by simp; omega
        clear b1 b2 b3
        go_enter Try.func7, Try.ntmps7
        go_wp2_with fail
        refine C1.out.mono ?_
        rw [HE.out]
        cases q with
        | none =>
          rintro e w1 ⟨rfl, hB⟩
          have HW := Lib.hid hB
          clear hB
          go_wp2_with fail
          refine (in_calls _ _ _ _).mono ?_
          rw [HB1.out]
          rintro e w2 ⟨rfl, rfl⟩
          go_wp2_with fail
          refine (in_calls _ _ _ _).mono ?_
          rw [HB2.out]
          rintro e w2 ⟨rfl, rfl⟩
          go_wp2_with fail
          refine (CR.out _).mono ?_
          rw [HREF.out]
          rintro e w3 ⟨v, rfl, ho, hB⟩
          obtain rfl : v = .slice none 0 0 := ho
          have HW2 := Lib.hid (HW.out.trans ((((Below.refl _ _).alloc (Nat.le_refl _) _).trans (hB.mono (by simp))).mono HW.out.size))
          clear hB
          go_wp2_with fail
          refine (found_none _).mono ?_
          rintro e w4 ⟨rfl, hB⟩
          have HW3 := Lib.hid (HW2.out.trans (hB.mono HW2.out.size))
          clear hB
          go_wp2_with fail
          refine (lives_calls _).mono ?_
          rintro e x5 ⟨rfl, hB⟩
          have HX5 := Lib.hid (HW3.out.trans (hB.mono HW3.out.size))
          clear hB
          go_wp2_with fail
          go_ret
          exact ⟨rfl, HX5.out⟩
        | some ys =>
          rintro e w1 ⟨A, nn, cc, rfl, hn, h1, h2, hrd, hB⟩
          have HN := Lib.hid hn
          have HRD := Lib.hid hrd
          have HW := Lib.hid hB
          clear hB hn hrd
          go_wp2_with fail
          refine (in_calls _ _ _ _).mono ?_
          rw [HB1.out]
          rintro e w2 ⟨rfl, rfl⟩
          go_wp2_with fail
          refine (in_calls _ _ _ _).mono ?_
          rw [HB2.out]
          rintro e w2 ⟨rfl, rfl⟩
          go_wp2_with fail
          refine (CR.out _).mono ?_
          rw [HREF.out]
          rintro e w3 ⟨v, rfl, ho, hB⟩
          have HO := Lib.hid ho
          have HB3 : Hid (Below w1.heap.size w1 w3) := ((Below.refl _ _).alloc (Nat.le_refl _) _).trans (hB.mono (by simp))
          have HW2 := Lib.hid (HW.out.trans (HB3.out.mono HW.out.size))
          clear hB
          obtain ⟨⟨va, vn, vc, rfl⟩, _⟩ := ho
          go_wp2_with fail
          refine (found_some A nn cc ys _ _ HN.out (HRD.out.below HB3.out) h1 h2 HO.out).mono ?_
          rintro e w4 ⟨rfl, hB⟩
          have HW3 := Lib.hid (HW2.out.trans (hB.mono HW2.out.size))
          clear hB
          go_wp2_with fail
          refine (lives_calls _).mono ?_
          rintro e x5 ⟨rfl, hB⟩
          have HX5 := Lib.hid (HW3.out.trans (hB.mono HW3.out.size))
          clear hB
          go_wp2_with fail
          go_ret
          exact ⟨rfl, HX5.out⟩
end Go.Proofs.Ytplafgmceggcnaa
