/- What is proved: lives. No condition beyond those in each statement. -/
import Derived.Test.YtahjgdikjaakbaaPd
namespace Go.Proofs.Ytahjgdikjaakbaa
open Go.RowKit

theorem sameV {w : World} {u v : Value} {xs ys : List Int} (h : Sl w u xs) (k : Sl w v ys) : Calls Try.prog 40 #[u, v] w fun e w' => e = .returned (.bool (decide (xs = ys))) ∧ Below w.heap.size w w' := by
  obtain ⟨A, c, rfl, h1, h2, _, h3⟩ := h
  obtain ⟨B, d, rfl, k1, k2, _, k3⟩ := k
  exact same_calls A B _ c _ d xs ys w rfl h3 h1 h2 rfl k3 k1 k2
theorem sl_lit (w : World) (xs : List Int) (_hx : xs ≠ []) (hl : xs.length ≤ 1000) (b : Nat) (hb : b = w.heap.size) : Sl (w.alloc (.cells (xs.map (Value.int .i64)).toArray 3)) (.slice (some ⟨b, 0, none⟩) xs.length xs.length) xs :=
  ⟨_, _, rfl, Nat.le_refl _, by omega, (fun h => by cases h), rd_lit w xs b hb⟩
def lt0 : TS := TS.made 3 0
def lt1 : TS := lt0.want 1
def lt2 : TS := lt1.delI 1 0
def lt3 : TS := lt2.delI 0 1
def lt4 : TS := lt3.leaveI 1
theorem lok0 : Ok lt0 0 := Ok.made (by omega) (by omega)
theorem lok1 : Ok lt1 1 := lok0.want 1
theorem lok2 : Ok lt2 2 := lok1.deliver 1 0
theorem lok3 : Ok lt3 3 := lok2.deliver 0 1
theorem lok4 : Ok lt4 4 := lok3.leave 1
theorem lv1 : lt0.wantE 1 = 0 ∧ lt1.wai = [1] ∧ lt1.cals.length = 2 ∧ lt1.delE 1 0 = 0 ∧ lt2.holder = -1 ∧ lt2.delE 0 1 = 0 := by decide +kernel
theorem lv2 : lt3.insI = 1 ∧ lt3.holder = 1 ∧ lt3.sent = 3 ∧ lt3.leaveE 1 = 0 ∧ lt4.insI = -1 ∧ lt4.served = [0, 1, 0] := by decide +kernel
set_option maxRecDepth 100000 in
set_option maxHeartbeats 8000000 in
theorem lives_calls (w : World) : Calls Try.prog 14 #[] w fun e w' => e = .returned (.bool true) ∧ Below w.heap.size w w' := by
  have CN := Lib.hid (on_new (n := 3) (h := 0) w w (Below.refl _ _) (by omega) (by omega))
  have CW : Hid (∀ T w1, On w T lt0 w1 → Calls Try.prog 32 #[.pointer (some ⟨T, 0, none⟩), .int .i64 1] w1 fun e w' => e = .returned (.int .i64 0) ∧ On w T lt1 w') := fun T w1 h => by
    have := on_want h lok0 (by omega) 1
    rw [lv1.1] at this
    exact this
  have CA : Hid (∀ T w1, On w T lt1 w1 → Calls Try.prog 21 #[.pointer (some ⟨T, 0, none⟩)] w1 fun e w' => ∃ v, e = .returned v ∧ Ow w' w1.heap.size v [1] ∧ On w T lt1 w' ∧ Below w1.heap.size w1 w') := fun T w1 h => by
    have := on_waiting h
    rw [lv1.2.1] at this
    exact this
  have CF : Hid (∀ T w1, On w T lt1 w1 → Calls Try.prog 16 #[.pointer (some ⟨T, 0, none⟩)] w1 fun e w' => ∃ A c, e = .returned (.slice A 2 c) ∧ On w T lt1 w') := fun T w1 h => by
    refine (on_flight h lok1 (by omega)).mono ?_
    rintro e w' ⟨v, rfl, ho, h1, _⟩
    obtain ⟨A, c, rfl, _⟩ := ho.rd
    exact ⟨A, c, by rw [lv1.2.2.1], h1⟩
  have CD : Hid (∀ T w1, On w T lt1 w1 → Calls Try.prog 37 #[.pointer (some ⟨T, 0, none⟩), .int .i64 1, .int .i64 0] w1 fun e w' => e = .returned (.int .i64 0) ∧ On w T lt2 w') := fun T w1 h => by
    have := on_deliver h lok1 (by omega) 1 0
    rw [lv1.2.2.2.1] at this
    exact this
  have CH : Hid (∀ T w1, On w T lt2 w1 → Calls Try.prog 17 #[.pointer (some ⟨T, 0, none⟩)] w1 fun e w' => e = .returned (.int .i64 (-1)) ∧ w1 = w') := fun T w1 h => by
    have := on_holder h
    rw [lv1.2.2.2.2.1] at this
    exact this
  have CE : Hid (∀ T w1, On w T lt2 w1 → Calls Try.prog 37 #[.pointer (some ⟨T, 0, none⟩), .int .i64 0, .int .i64 1] w1 fun e w' => e = .returned (.int .i64 0) ∧ On w T lt3 w') := fun T w1 h => by
    have := on_deliver h lok2 (by omega) 0 1
    rw [lv1.2.2.2.2.2] at this
    exact this
  have DI : Hid (∀ T w1, On w T lt3 w1 → Calls Try.prog 18 #[.pointer (some ⟨T, 0, none⟩)] w1 fun e w' => e = .returned (.int .i64 1) ∧ On w T lt3 w') := fun T w1 h => by
    have := on_inside h
    rw [lv2.1] at this
    exact this.mono fun _ _ h => ⟨h.1, h.2.1⟩
  have DH : Hid (∀ T w1, On w T lt3 w1 → Calls Try.prog 17 #[.pointer (some ⟨T, 0, none⟩)] w1 fun e w' => e = .returned (.int .i64 1) ∧ w1 = w') := fun T w1 h => by
    have := on_holder h
    rw [lv2.2.1] at this
    exact this
  have DS : Hid (∀ T w1, On w T lt3 w1 → Calls Try.prog 22 #[.pointer (some ⟨T, 0, none⟩)] w1 fun e w' => e = .returned (.int .i64 3) ∧ w1 = w') := fun T w1 h => by
    have := on_sent h
    rw [lv2.2.2.1] at this
    exact this
  have DL : Hid (∀ T w1, On w T lt3 w1 → Calls Try.prog 34 #[.pointer (some ⟨T, 0, none⟩), .int .i64 1] w1 fun e w' => e = .returned (.int .i64 0) ∧ On w T lt4 w') := fun T w1 h => by
    have := on_leave h lok3 (by omega) 1
    rw [lv2.2.2.2.1] at this
    exact this
  have DJ : Hid (∀ T w1, On w T lt4 w1 → Calls Try.prog 18 #[.pointer (some ⟨T, 0, none⟩)] w1 fun e w' => e = .returned (.int .i64 (-1)) ∧ On w T lt4 w') := fun T w1 h => by
    have := on_inside h
    rw [lv2.2.2.2.2.1] at this
    exact this.mono fun _ _ h => ⟨h.1, h.2.1⟩
  have DV : Hid (∀ T w1, On w T lt4 w1 → Calls Try.prog 25 #[.pointer (some ⟨T, 0, none⟩)] w1 fun e w' => ∃ v, e = .returned v ∧ Ow w' w1.heap.size v [0, 1, 0] ∧ On w T lt4 w' ∧ Below w1.heap.size w1 w') := fun T w1 h => by
    have := on_served h lok4
    rw [lv2.2.2.2.2.2] at this
    exact this
  go_enter Try.func14, Try.ntmps14
  go_wp2_with fail
  refine CN.out.mono ?_
  rintro e w1 ⟨T, rfl, h0⟩
  have H0 : Hid (On w T lt0 w1) := h0
  clear h0 CN
  go_wp2_with fail
  refine (CW.out _ _ H0.out).mono ?_
  rintro e w2 ⟨rfl, h0⟩
  have H1 := Lib.hid h0
  clear h0 CW H0
  go_wp2_with fail
  refine (CA.out _ _ H1.out).mono ?_
  rintro e w3 ⟨v, rfl, ho, h0, hb⟩
  have H2 := Lib.hid h0
  have CS := Lib.hid (sameV (w := w3.alloc (.cells #[.int .i64 1] 3)) (u := v) (v := .slice (some ⟨w3.heap.size, 0, none⟩) 1 1) (xs := [1]) (ys := [1]) (ho.sl.below ((Below.refl _ _).alloc (Nat.le_refl _) _)) (sl_lit w3 [1] (by simp) (by simp) _ rfl))
  have H3 : Hid (On w T lt1 (w3.alloc (.cells #[.int .i64 1] 3))) := h0.below ((Below.refl _ _).alloc (Nat.le_refl _) _)
  clear h0 hb ho CA H1 H2
  go_wp2_with fail
  refine CS.out.mono ?_
  rintro e w4 ⟨rfl, hb⟩
  have H4 := Lib.hid (H3.out.below hb)
  clear hb H3 CS
  go_wp2_with fail
  refine (CF.out _ _ H4.out).mono ?_
  rintro e w5 ⟨A, c, rfl, h0⟩
  have H5 := Lib.hid h0
  clear h0 H4 CF
  go_wp2_with fail
  refine (CD.out _ _ H5.out).mono ?_
  rintro e w6 ⟨rfl, h0⟩
  have H6 := Lib.hid h0
  clear h0 H5 CD
  go_wp2_with fail
  refine (CH.out _ _ H6.out).mono ?_
  rintro e w7 ⟨rfl, rfl⟩
  go_wp2_with fail
  refine (CE.out _ _ H6.out).mono ?_
  rintro e w7 ⟨rfl, h0⟩
  have H7 := Lib.hid h0
  clear h0 H6 CH CE
  go_wp2_with fail
  refine (DI.out _ _ H7.out).mono ?_
  rintro e w8 ⟨rfl, h0⟩
  have H8 := Lib.hid h0
  clear h0 H7 DI
  go_wp2_with fail
  refine (DH.out _ _ H8.out).mono ?_
  rintro e w9 ⟨rfl, rfl⟩
  go_wp2_with fail
  refine (DS.out _ _ H8.out).mono ?_
  rintro e w9 ⟨rfl, rfl⟩
  go_wp2_with fail
  refine (DL.out _ _ H8.out).mono ?_
  rintro e w9 ⟨rfl, h0⟩
  have H9 := Lib.hid h0
  clear h0 H8 DH DS DL
  go_wp2_with fail
  refine (DJ.out _ _ H9.out).mono ?_
  rintro e w10 ⟨rfl, h0⟩
  have H10 := Lib.hid h0
  clear h0 H9 DJ
  go_wp2_with fail
  refine (DV.out _ _ H10.out).mono ?_
  rintro e w11 ⟨v, rfl, ho, h0, hb⟩
  have CS := Lib.hid (sameV (w := w11.alloc (.cells #[.int .i64 0, .int .i64 1, .int .i64 0] 3)) (u := v) (v := .slice (some ⟨w11.heap.size, 0, none⟩) 3 3) (xs := [0, 1, 0]) (ys := [0, 1, 0]) (ho.sl.below ((Below.refl _ _).alloc (Nat.le_refl _) _)) (sl_lit w11 [0, 1, 0] (by simp) (by simp) _ rfl))
  have H11 : Hid (On w T lt4 (w11.alloc (.cells #[.int .i64 0, .int .i64 1, .int .i64 0] 3))) := h0.below ((Below.refl _ _).alloc (Nat.le_refl _) _)
  clear h0 hb ho H10 DV
  go_wp2_with fail
  refine CS.out.mono ?_
  rintro e w12 ⟨rfl, hb⟩
  have H12 := Lib.hid (H11.out.below hb)
  clear hb H11 CS
  go_wp2_with fail
  go_ret
  exact ⟨rfl, H12.out.bel⟩
end Go.Proofs.Ytahjgdikjaakbaa
