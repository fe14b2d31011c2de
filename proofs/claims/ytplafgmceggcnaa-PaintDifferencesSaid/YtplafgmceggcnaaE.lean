/- What is proved: progressions (contracts of functions of paint, and what they need). No condition beyond those in each statement. -/
import Derived.Test.YtplafgmceggcnaaD
namespace Go.Proofs.Ytplafgmceggcnaa
open Go.RowKit

def progOk (cs : List Int) (k a d : Nat) : Bool := (List.range k).all fun i => cs.getD (a + i * d - 1) 0 == cs.getD (a - 1) 0
def progAt (cs : List Int) (k a d : Nat) : Option (List Int) := if progOk cs k a d then some [(a : Int), (d : Int)] else none
def progF (cs : List Int) (k : Nat) : Option (List Int) := firstFrom (fun a => firstFrom (progAt cs k a) ((cs.length - a) / (k - 1)) 1) cs.length 1

theorem all_range_succ (p : Nat → Bool) (i : Nat) : (List.range (i + 1)).all p = ((List.range i).all p && p i) := by
  rw [List.range_succ, List.all_append]; simp

set_option maxHeartbeats 2000000 in
theorem prog_calls (A : Option Addr) (n c : Nat) (cs : List Int) (k : Nat) (hk : k = 3 ∨ k = 4) (w : World) (hn : n = cs.length) (hn2 : n ≤ 1000) (hA : Rd w A cs) (hl : n ≤ c) (hc : c ≤ 9223372036854775807) :
    Calls Try.prog 49 #[.slice A n c, .int .i64 k] w fun e w' => ∃ v, e = .returned v ∧ OptSl w' v (progF cs k) ∧ Below w.heap.size w w' := by
  have HN := Lib.hid hn
  have HA := Lib.hid hA
  clear hn hA
  have hk3 : 3 ≤ k ∧ k ≤ 4 := by omega
  have hwm : ∀ d : Nat, d ≤ 1000 → IntKind.i64.wrap (((k : Int) - 1) * ((d : Int) + 1)) = (((k - 1) * (d + 1) : Nat) : Int) := fun d hd => by
    rcases hk with rfl | rfl <;> (rw [IntWalk.i64_in _ (by omega)]; omega)
  have HW := Lib.hid hwm
  clear hk hwm
  go_enter Try.func49, Try.ntmps49
  go_wp2_with fail
  go_loopg [5] n (SrI w n (fun a => firstFrom (progAt cs k a) ((n - a) / (k - 1)) 1) (progF cs k))
  case atStart => exact ⟨0, rfl, Nat.zero_le _, ⟨rfl, by unfold progF; rw [← HN.out]; rfl⟩, Below.refl _ _⟩
  case round =>
    obtain ⟨a, rfl, ha, HG, HB⟩ := hrel
    by_cases hlt : a < n
    · go_wp2_with fail
      go_loopg [6] ((n - (a + 1)) / (k - 1)) (fun g v wr' => ∃ d : Nat, v = .int .i64 ((d : Int) + 1) ∧ d ≤ n ∧ Hid (g = (n - (a + 1)) / (k - 1) - d ∧ d ≤ (n - (a + 1)) / (k - 1) ∧ firstFrom (progAt cs k (a + 1)) ((n - (a + 1)) / (k - 1)) 1 = firstFrom (progAt cs k (a + 1)) ((n - (a + 1)) / (k - 1) - d) (d + 1)) ∧ Hid (Below w.heap.size w wr'))
      case atStart => exact ⟨0, rfl, Nat.zero_le _, ⟨rfl, Nat.zero_le _, rfl⟩, HB.out⟩
      case round =>
        obtain ⟨d, rfl, hdn, HG2, HB2⟩ := hrel
        obtain ⟨p, hp⟩ : ∃ p, p = (k - 1) * (d + 1) := ⟨_, rfl⟩
        have hw := HW.out d (by omega)
        rw [← hp] at hw
        have hpb : p ≤ 3 * (d + 1) := by rw [hp]; exact Nat.mul_le_mul_right _ (by omega)
        have hpb2 : d + 1 ≤ p := by rw [hp]; exact Nat.le_mul_of_pos_left _ (by omega)
        have HP := Lib.hid hp
        have hgo : d < (n - (a + 1)) / (k - 1) ↔ a + 1 + p ≤ n := by
          rw [hp, Nat.lt_iff_add_one_le, Nat.le_div_iff_mul_le (by omega), Nat.mul_comm]
          omega
        clear hp
        have hkw : IntKind.i64.wrap ((k : Int) - 1) = (k : Int) - 1 := IntWalk.i64_in _ (by omega)
        by_cases hlt2 : a + 1 + p ≤ n
        · have hgo2 := hgo.2 hlt2
          clear hgo
          go_wp2_with fail
          go_loopg [7, 27] k (fun g s v wr'' => ∃ (i : Nat) (b : Bool), s = .bool b ∧ v = .int .i64 i ∧ i ≤ k ∧ Hid (g = k - i ∧ b = (List.range i).all fun j => cs.getD (a + 1 + j * (d + 1) - 1) 0 == cs.getD (a + 1 - 1) 0) ∧ Hid (Below w.heap.size w wr''))
          case atStart => exact ⟨0, true, rfl, rfl, Nat.zero_le _, ⟨rfl, rfl⟩, HB2.out⟩
          case round =>
            obtain ⟨i, b, rfl, rfl, hi, HG3, HB3⟩ := hrel
            by_cases hlt3 : i < k
            · obtain ⟨q, hq⟩ : ∃ q, q = i * (d + 1) := ⟨_, rfl⟩
              have hqp : q ≤ p := by
                rw [hq, HP.out]; exact Nat.mul_le_mul_right _ (by omega)
              have hqz : ((i : Int) * ((d : Int) + 1)) = (q : Int) := by rw [hq]; simp
              have w1 : IntKind.i64.wrap ((i : Int) * ((d : Int) + 1)) = (q : Int) := by rw [hqz]; exact IntWalk.i64_in _ (by omega)
              have hidx : a + 1 + i * (d + 1) - 1 = a + q := by rw [← hq]; omega
              have px : a < cs.length := by have := HN.out; omega
              have py : a + q < cs.length := by have := HN.out; omega
              have HS : Hid (((List.range (i + 1)).all fun j => cs.getD (a + 1 + j * (d + 1) - 1) 0 == cs.getD (a + 1 - 1) 0) = (b && cs[a + q]'py == cs[a]'px)) := by
                show _ = _
                rw [all_range_succ, ← HG3.out.2, hidx, show a + 1 - 1 = a by omega]
                simp [List.getD_eq_getElem?_getD, px, py]
              have HQ := Lib.hid hq
              clear hq hqz hidx
              obtain ⟨bb, o, rfl, hb, hc1⟩ := HA.out.at a px
              obtain ⟨bb', o', e', _, hc2⟩ := HA.out.at (a + q) py
              cases e'
              have d1 := (HB3.out.cell (p := ⟨bb, o + a, none⟩) hb).trans hc1
              have d2 := (HB3.out.cell (p := ⟨bb, o + (a + q), none⟩) hb).trans hc2
              clear hc1 hc2
              have b1 : (0 : Int) ≤ a ∧ (a : Int) < n := by omega
              have b2 : (0 : Int) ≤ ((a + q : Nat) : Int) ∧ ((a + q : Nat) : Int) < n := by omega
              have w2 : IntKind.i64.wrap ((a : Int) + 1 + (q : Int)) = (a : Int) + 1 + (q : Int) := IntWalk.i64_in _ (by omega)
              have w3 : IntKind.i64.wrap ((a : Int) + 1 + (q : Int) - 1) = ((a + q : Nat) : Int) := by rw [IntWalk.i64_in _ (by omega)]; omega
              have w4 : IntKind.i64.wrap (a : Int) = a := IntWalk.i64_in _ (by omega)
              cases b
              · go_wp2_with fail
                go_quiet (fail)
                clear w1 w2 w3 w4
                go_wp2_with fail
                go_roundg (k - (i + 1))
                case measure => have := HG3.out.1; omega
                case rel => exact ⟨i + 1, false, rfl, by go_num, by omega, ⟨rfl, by rw [HS.out]; rfl⟩, below_drewN HB3.out _⟩
              · go_wp2_with fail
                go_quiet (fail)
                clear w1 w2 w3 w4
                go_wp2_with fail
                go_roundg (k - (i + 1))
                case measure => have := HG3.out.1; omega
                case rel => exact ⟨i + 1, _, rfl, by go_num, by omega, ⟨rfl, by rw [HS.out]; rfl⟩, below_drewN HB3.out _⟩
            · have hik : i = k := by omega
              have HOK : Hid (progOk cs k (a + 1) (d + 1) = b) := by
                have := HG3.out.2
                rw [hik] at this
                exact this.symm
              clear hik
              cases b
              · have HQ : Hid (progAt cs k (a + 1) (d + 1) = none) := by show _ = _; unfold progAt; rw [HOK.out]; rfl
                go_wp2_with fail
                go_roundg ((n - (a + 1)) / (k - 1) - (d + 1))
                case measure => have := HG2.out.1; omega
                case rel => exact ⟨d + 1, by go_num, by omega, ⟨rfl, by omega, by rw [HG2.out.2.2, show (n - (a + 1)) / (k - 1) - d = (n - (a + 1)) / (k - 1) - (d + 1) + 1 by omega, firstFrom_none HQ.out]⟩, HB3.out⟩
              · have HQ : Hid (progAt cs k (a + 1) (d + 1) = some [(a : Int) + 1, (d : Int) + 1]) := by show _ = _; unfold progAt; rw [HOK.out]; rfl
                go_wp2_with fail
                go_ret
                refine ⟨_, rfl, ?_, HB3.out.alloc (HB3.out.size) _⟩
                have e1 := HG2.out.2.2
                rw [show (n - (a + 1)) / (k - 1) - d = (n - (a + 1)) / (k - 1) - (d + 1) + 1 by omega, firstFrom_some HQ.out] at e1
                have e2 := HG.out.2
                rw [show n - a = n - (a + 1) + 1 by omega] at e2
                rw [e2.trans (firstFrom_some (g := fun a => firstFrom (progAt cs k a) ((n - a) / (k - 1)) 1) e1)]
                exact opt_two _ _ _ _ (by simp)
        · have hd : (n - (a + 1)) / (k - 1) - d = 0 := by
            have : ¬ d < (n - (a + 1)) / (k - 1) := fun h => hlt2 (hgo.1 h)
            omega
          have HD := Lib.hid hd
          clear hd hgo
          go_wp2_with fail
          go_roundg (n - (a + 1))
          case measure => have := HG.out.1; omega
          case rel =>
            refine ⟨a + 1, by go_num, by omega, ⟨rfl, ?_⟩, HB2.out⟩
            have e1 := HG2.out.2.2
            rw [HD.out] at e1
            rw [HG.out.2, show n - a = n - (a + 1) + 1 by omega]
            exact firstFrom_none (g := fun a => firstFrom (progAt cs k a) ((n - a) / (k - 1)) 1) e1
    · go_wp2_with fail
      go_ret
      refine ⟨_, rfl, ?_, HB.out⟩
      rw [HG.out.2, show n - a = 0 by omega]
      rfl
def stepsB (k : Int) : Bool := k == 3 || k == 4

set_option maxHeartbeats 400000 in
theorem steps_calls (k : Int) (w : World) : Calls Try.prog 48 #[.int .i64 k] w fun e w' => e = .returned (.bool (stepsB k)) ∧ w = w' := by
  cases h : (k == 3)
  · have HD : Hid (stepsB k = (k == 4)) := by show _ = _; unfold stepsB; rw [h]; rfl
    go_enter Try.func48, Try.ntmps48
    go_wp2_with fail
    go_ret
    exact ⟨ret_bool (by rw [HD.out]), rfl⟩
  · have HD : Hid (stepsB k = true) := by show _ = _; unfold stepsB; rw [h]; rfl
    go_enter Try.func48, Try.ntmps48
    go_wp2_with fail
    go_ret
    exact ⟨ret_bool (by rw [HD.out]), rfl⟩

def ProgR (cs : List Int) (k : Int) : Option (List Int) × Int :=
  if !stepsB k then (none, 1) else if decide (cs.length < 1) || decide (cs.length > 20) || !inRange 3 cs then (none, 2) else (progF cs k.toNat, foundR (progF cs k.toNat))

set_option maxHeartbeats 1000000 in
theorem Progression_calls (A : Option Addr) (n c : Nat) (cs : List Int) (k : Int) (w : World) (hn : n = cs.length) (hA : Rd w A cs) (hl : n ≤ c) (hc : c ≤ 9223372036854775807) :
    Calls Try.prog 29 #[.slice A n c, .int .i64 k] w (OptR w (ProgR cs k)) := by
  have HN := Lib.hid hn
  have HA := Lib.hid hA
  clear hn hA
  cases hs : stepsB k
  · have HR : Hid (ProgR cs k = (none, 1)) := by show ProgR cs k = _; unfold ProgR; rw [hs]; rfl
    have HQ := Lib.hid hs
    clear hs
    go_enter Try.func29, Try.ntmps29
    go_wp2_with fail
    refine (steps_calls k _).mono ?_
    rw [HQ.out]
    rintro e w1 ⟨rfl, rfl⟩
    go_wp2_with fail
    go_ret2
    exact OptR.mk HR.out rfl (Below.refl _ _)
  have HQ0 := Lib.hid hs
  by_cases h1 : n < 1
  · have HR : Hid (ProgR cs k = (none, 2)) := by show ProgR cs k = _; unfold ProgR; rw [hs, ← HN.out]; simp [h1]
    clear hs
    go_enter Try.func29, Try.ntmps29
    go_wp2_with fail
    refine (steps_calls k _).mono ?_
    rw [HQ0.out]
    rintro e w1 ⟨rfl, rfl⟩
    go_wp2_with fail
    go_ret2
    exact OptR.mk HR.out rfl (Below.refl _ _)
  · by_cases h2 : 20 < n
    · have HR : Hid (ProgR cs k = (none, 2)) := by show ProgR cs k = _; unfold ProgR; rw [hs, ← HN.out]; simp [h2]
      clear hs
      go_enter Try.func29, Try.ntmps29
      go_wp2_with fail
      refine (steps_calls k _).mono ?_
      rw [HQ0.out]
      rintro e w1 ⟨rfl, rfl⟩
      go_wp2_with fail
      go_ret2
      exact OptR.mk HR.out rfl (Below.refl _ _)
    · have hk : ∃ k' : Nat, k = k' ∧ (k' = 3 ∨ k' = 4) := by
        unfold stepsB at hs
        rcases Bool.or_eq_true _ _ ▸ hs with h | h
        · exact ⟨3, by simpa using h, .inl rfl⟩
        · exact ⟨4, by simpa using h, .inr rfl⟩
      obtain ⟨k', rfl, hk'⟩ := hk
      have HK := Lib.hid hk'
      clear hk'
      cases h3 : inRange 3 cs
      · have HR : Hid (ProgR cs k' = (none, 2)) := by show ProgR cs k' = _; unfold ProgR; rw [hs, h3]; simp
        have HQ := Lib.hid h3
        clear h3 hs
        go_enter Try.func29, Try.ntmps29
        go_wp2_with fail
        refine (steps_calls _ _).mono ?_
        rw [HQ0.out]
        rintro e w1 ⟨rfl, rfl⟩
        go_wp2_with fail
        refine (colored_calls _ n c cs n 3 _ HN.out HA.out hl hc).mono ?_
        rw [HQ.out]
        rintro e w1 ⟨rfl, hB⟩
        have HB := Lib.hid hB
        clear hB
        go_wp2_with fail
        go_ret2
        exact OptR.mk HR.out rfl HB.out
      · have HR : Hid (ProgR cs k' = (progF cs k', foundR (progF cs k'))) := by show ProgR cs k' = _; unfold ProgR; rw [hs, h3, ← HN.out]; simp; omega
        have HQ := Lib.hid h3
        clear h3 hs
        go_enter Try.func29, Try.ntmps29
        go_wp2_with fail
        refine (steps_calls _ _).mono ?_
        rw [HQ0.out]
        rintro e w1 ⟨rfl, rfl⟩
        go_wp2_with fail
        refine (colored_calls _ n c cs n 3 _ HN.out HA.out hl hc).mono ?_
        rw [HQ.out]
        rintro e w1 ⟨rfl, hB⟩
        have HB := Lib.hid hB
        clear hB
        go_wp2_with fail
        refine (prog_calls _ n c cs k' HK.out _ HN.out (by omega) (HA.out.below HB.out) hl hc).mono ?_
        rintro e w2 ⟨v, rfl, ho, hB2⟩
        have HO := Lib.hid ho
        have HB2 := Lib.hid (HB.out.trans (hB2.mono HB.out.size))
        clear ho hB2
        go_wp2_with fail
        refine (found_calls v (progF cs k') _ HO.out).mono ?_
        rintro e w3 ⟨rfl, rfl⟩
        go_wp2_with fail
        go_ret2
        exact OptR.mk HR.out HO.out HB2.out

/-! The rules that are handed to extend. -/
set_option maxHeartbeats 400000 in
theorem sumless1_calls (A : Option Addr) (n c : Nat) (cs : List Int) (w : World) (hn : n = cs.length) (hn2 : n ≤ 1000) (hA : Rd w A cs) (hl : n ≤ c) (hc : c ≤ 9223372036854775807) :
    Calls Try.prog 47 #[.slice A n c] w fun e w' => e = .returned (.bool (sumF cs).isNone) ∧ Below w.heap.size w w' := by
  have qT : ∀ (w : World) (a : Option Addr) (n c n' c' : Nat), (binOp .eql 22 (.slice a n c) (.slice none n' c')).run Try.prog w = .ok (.bool a.isNone) w := fun w a n c n' c' => Lib.run_eql_slice_nil w _ _ a n c n' c' Try.underlying22
  have HC := Lib.hid (sum_calls A n c cs w hn hn2 hA hl hc)
  clear hn hA
  go_enter Try.func47, Try.ntmps47
  go_wp2_with fail
  refine HC.out.mono ?_
  rintro e w1 ⟨v, rfl, ho, hB⟩
  have HB := Lib.hid hB
  clear hB
  cases hr : sumF cs with
  | none =>
    rw [hr] at ho
    obtain rfl : v = .slice none 0 0 := ho
    have HR := Lib.hid hr
    clear hr
    go_wp2_with fail
    go_ret
    exact ⟨ret_bool (by simp [HR.out]), HB.out⟩
  | some r =>
    rw [hr] at ho
    obtain ⟨⟨a, m, c', rfl⟩, _⟩ := ho
    have HR := Lib.hid hr
    clear hr
    go_wp2_with fail
    go_ret
    exact ⟨ret_bool (by simp [HR.out]), HB.out⟩

set_option maxHeartbeats 400000 in
theorem stepless1_calls (A : Option Addr) (n c : Nat) (cs : List Int) (k : Nat) (hk : k = 3 ∨ k = 4) (b : Nat) (w : World) (hkb : w.cell? ⟨b, 0, none⟩ = some (.int .i64 k)) (hn : n = cs.length) (hn2 : n ≤ 1000) (hA : Rd w A cs) (hl : n ≤ c) (hc : c ≤ 9223372036854775807) :
    Calls Try.prog 50 #[.slice A n c, .pointer (some ⟨b, 0, none⟩)] w fun e w' => e = .returned (.bool (progF cs k).isNone) ∧ Below w.heap.size w w' := by
  have qT : ∀ (w : World) (a : Option Addr) (n c n' c' : Nat), (binOp .eql 22 (.slice a n c) (.slice none n' c')).run Try.prog w = .ok (.bool a.isNone) w := fun w a n c n' c' => Lib.run_eql_slice_nil w _ _ a n c n' c' Try.underlying22
  have HC := Lib.hid (prog_calls A n c cs k hk w hn hn2 hA hl hc)
  clear hn hA hk
  go_enter Try.func50, Try.ntmps50
  go_wp2_with fail
  refine HC.out.mono ?_
  rintro e w1 ⟨v, rfl, ho, hB⟩
  have HB := Lib.hid hB
  clear hB
  cases hr : progF cs k with
  | none =>
    rw [hr] at ho
    obtain rfl : v = .slice none 0 0 := ho
    have HR := Lib.hid hr
    clear hr
    go_wp2_with fail
    go_ret
    exact ⟨ret_bool (by simp [HR.out]), HB.out⟩
  | some r =>
    rw [hr] at ho
    obtain ⟨⟨a, m, c', rfl⟩, _⟩ := ho
    have HR := Lib.hid hr
    clear hr
    go_wp2_with fail
    go_ret
    exact ⟨ret_bool (by simp [HR.out]), HB.out⟩
end Go.Proofs.Ytplafgmceggcnaa
