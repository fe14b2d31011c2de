/- What is proved: the reference of Sum and Progression (contracts of functions of paint, and what they need). No condition beyond those in each statement. -/
import Derived.Test.YtplafgmceggcnaaP
namespace Go.Proofs.Ytplafgmceggcnaa
open Go.RowKit

set_option maxHeartbeats 1000000 in
theorem refsum_calls (A : Option Addr) (n c : Nat) (cs : List Int) (w : World) (hn : n = cs.length) (hn2 : n ≤ 1000) (hA : Rd w A cs) (hl : n ≤ c) (hc : c ≤ 9223372036854775807) :
    Calls Try.prog 26 #[.slice A n c] w fun e w' => ∃ v, e = .returned v ∧ OptSl w' v (sumF cs) ∧ Below w.heap.size w w' := by
  have HN := Lib.hid hn
  have HA := Lib.hid hA
  clear hn hA
  go_enter Try.func26, Try.ntmps26
  go_wp2_with fail
  go_loopg [4] n (SrI w n (fun x => firstFrom (sumAt cs x) (n + 1 - x - x) x) (sumF cs))
  case atStart => exact ⟨0, rfl, Nat.zero_le _, ⟨rfl, by unfold sumF; rw [← HN.out]; rfl⟩, Below.refl _ _⟩
  case round =>
    obtain ⟨x, rfl, hx, HG, HB⟩ := hrel
    by_cases hlt : x < n
    · go_wp2_with fail
      go_loopg [5] (n - (2 * x + 1)) (fun g v wr' => ∃ y : Nat, v = .int .i64 ((y : Int) + 1) ∧ x ≤ y ∧ y ≤ n ∧ Hid (g = n - (x + y + 1) ∧ firstFrom (sumAt cs (x + 1)) (n + 1 - (x + 1) - (x + 1)) (x + 1) = firstFrom (sumAt cs (x + 1)) (n - (x + y + 1)) (y + 1)) ∧ Hid (Below w.heap.size w wr'))
      case atStart => exact ⟨x, rfl, Nat.le_refl _, by omega, ⟨by omega, by rw [show n + 1 - (x + 1) - (x + 1) = n - (x + x + 1) by omega]⟩, HB.out⟩
      case round =>
        obtain ⟨y, rfl, hxy, hyn, HG2, HB2⟩ := hrel
        by_cases hlt2 : x + y + 1 < n
        · obtain ⟨b, o, rfl, hb, hc1⟩ := HA.out.at x (by have := HN.out; omega)
          obtain ⟨b', o', e', _, hc2⟩ := HA.out.at y (by have := HN.out; omega)
          cases e'
          obtain ⟨b', o', e', _, hc3⟩ := HA.out.at (x + y + 1) (by have := HN.out; omega)
          cases e'
          have d1 := (HB2.out.cell (p := ⟨b, o + x, none⟩) hb).trans hc1
          have d2 := (HB2.out.cell (p := ⟨b, o + y, none⟩) hb).trans hc2
          have d3 := (HB2.out.cell (p := ⟨b, o + (x + y + 1), none⟩) hb).trans hc3
          clear hc1 hc2 hc3
          have b1 : (0 : Int) ≤ x ∧ (x : Int) < n := by omega
          have b2 : (0 : Int) ≤ y ∧ (y : Int) < n := by omega
          have b3 : (0 : Int) ≤ ((x + y + 1 : Nat) : Int) ∧ ((x + y + 1 : Nat) : Int) < n := by omega
          have w1 : IntKind.i64.wrap (x : Int) = x := IntWalk.i64_in _ (by omega)
          have w2 : IntKind.i64.wrap (y : Int) = y := IntWalk.i64_in _ (by omega)
          have w3 : IntKind.i64.wrap ((x : Int) + 1 + ((y : Int) + 1)) = (x : Int) + 1 + ((y : Int) + 1) := IntWalk.i64_in _ (by omega)
          have w4 : IntKind.i64.wrap ((x : Int) + 1 + ((y : Int) + 1) - 1) = ((x + y + 1 : Nat) : Int) := by rw [IntWalk.i64_in _ (by omega)]; omega
          have px : x < cs.length := by have := HN.out; omega
          have py : y < cs.length := by have := HN.out; omega
          have pz : x + y + 1 < cs.length := by have := HN.out; omega
          have HS := Lib.hid (sumAt_succ cs x y px py pz)
          cases q1 : (cs[x]'px == cs[y]'py)
          · have HQ : Hid (sumAt cs (x + 1) (y + 1) = none) := by show sumAt cs (x + 1) (y + 1) = none; rw [HS.out, q1]; rfl
            clear HS
            go_wp2_with fail
            go_quiet (fail)
            clear w1 w2 w3 w4 q1
            go_wp2_with fail
            go_roundg (n - (x + (y + 1) + 1))
            case measure => have := HG2.out.1; omega
            case rel => exact ⟨y + 1, by go_num, by omega, by omega, ⟨rfl, by rw [HG2.out.2, show n - (x + y + 1) = n - (x + (y + 1) + 1) + 1 by omega, firstFrom_none HQ.out]⟩, below_drewN HB2.out _⟩
          · cases q2 : (cs[x]'px == cs[x + y + 1]'pz)
            · have HQ : Hid (sumAt cs (x + 1) (y + 1) = none) := by show sumAt cs (x + 1) (y + 1) = none; rw [HS.out, q1, q2]; rfl
              clear HS
              go_wp2_with fail
              go_quiet (fail)
              clear w1 w2 w3 w4 q1 q2
              go_wp2_with fail
              go_roundg (n - (x + (y + 1) + 1))
              case measure => have := HG2.out.1; omega
              case rel => exact ⟨y + 1, by go_num, by omega, by omega, ⟨rfl, by rw [HG2.out.2, show n - (x + y + 1) = n - (x + (y + 1) + 1) + 1 by omega, firstFrom_none HQ.out]⟩, below_drewN HB2.out _⟩
            · have HQ : Hid (sumAt cs (x + 1) (y + 1) = some [(x : Int) + 1, (y : Int) + 1]) := by show sumAt cs (x + 1) (y + 1) = _; rw [HS.out, q1, q2]; rfl
              clear HS
              go_wp2_with fail
              go_quiet (fail)
              clear w1 w2 w3 w4 q1 q2
              go_wp2_with fail
              go_ret
              refine ⟨_, rfl, ?_, (below_drewN HB2.out _).alloc (by have := HB2.out.size; simp; omega) _⟩
              have e1 := HG2.out.2
              rw [show n - (x + y + 1) = n - (x + (y + 1) + 1) + 1 by omega, firstFrom_some HQ.out] at e1
              have e2 := HG.out.2
              rw [show n - x = n - (x + 1) + 1 by omega] at e2
              rw [e2.trans (firstFrom_some (g := fun x => firstFrom (sumAt cs x) (n + 1 - x - x) x) e1)]
              exact opt_two _ _ _ _ (by simp)
        · go_wp2_with fail
          go_roundg (n - (x + 1))
          case measure => have := HG.out.1; omega
          case rel =>
            refine ⟨x + 1, by go_num, by omega, ⟨rfl, ?_⟩, HB2.out⟩
            have e1 := HG2.out.2
            rw [show n - (x + y + 1) = 0 by omega] at e1
            rw [HG.out.2, show n - x = n - (x + 1) + 1 by omega]
            exact firstFrom_none (g := fun x => firstFrom (sumAt cs x) (n + 1 - x - x) x) e1
    · go_wp2_with fail
      go_ret
      refine ⟨_, rfl, ?_, HB.out⟩
      rw [HG.out.2, show n - x = 0 by omega]
      rfl

set_option maxHeartbeats 2000000 in
theorem refprog_calls (A : Option Addr) (n c : Nat) (cs : List Int) (k : Nat) (hk : k = 3 ∨ k = 4) (w : World) (hn : n = cs.length) (hn2 : n ≤ 1000) (hA : Rd w A cs) (hl : n ≤ c) (hc : c ≤ 9223372036854775807) :
    Calls Try.prog 30 #[.slice A n c, .int .i64 k] w fun e w' => ∃ v, e = .returned v ∧ OptSl w' v (progF cs k) ∧ Below w.heap.size w w' := by
  have HN := Lib.hid hn
  have HA := Lib.hid hA
  clear hn hA
  have hk3 : 3 ≤ k ∧ k ≤ 4 := by omega
  have hwm : ∀ d : Nat, d ≤ 1000 → IntKind.i64.wrap (((k : Int) - 1) * ((d : Int) + 1)) = (((k - 1) * (d + 1) : Nat) : Int) := fun d hd => by
    rcases hk with rfl | rfl <;> (rw [IntWalk.i64_in _ (by omega)]; omega)
  have HW := Lib.hid hwm
  clear hk hwm
  go_enter Try.func30, Try.ntmps30
  go_wp2_with fail
  go_loopg [6] n (SrI w n (fun a => firstFrom (progAt cs k a) ((n - a) / (k - 1)) 1) (progF cs k))
  case atStart => exact ⟨0, rfl, Nat.zero_le _, ⟨rfl, by unfold progF; rw [← HN.out]; rfl⟩, Below.refl _ _⟩
  case round =>
    obtain ⟨a, rfl, ha, HG, HB⟩ := hrel
    by_cases hlt : a < n
    · go_wp2_with fail
      go_loopg [7] ((n - (a + 1)) / (k - 1)) (fun g v wr' => ∃ d : Nat, v = .int .i64 ((d : Int) + 1) ∧ d ≤ n ∧ Hid (g = (n - (a + 1)) / (k - 1) - d ∧ d ≤ (n - (a + 1)) / (k - 1) ∧ firstFrom (progAt cs k (a + 1)) ((n - (a + 1)) / (k - 1)) 1 = firstFrom (progAt cs k (a + 1)) ((n - (a + 1)) / (k - 1) - d) (d + 1)) ∧ Hid (Below w.heap.size w wr'))
      case atStart => exact ⟨0, rfl, Nat.zero_le _, ⟨rfl, Nat.zero_le _, rfl⟩, HB.out⟩
      case round =>
        obtain ⟨d, rfl, hdn, HG2, HB2⟩ := hrel
        obtain ⟨p, hp⟩ : ∃ p, p = (k - 1) * (d + 1) := ⟨_, rfl⟩
        have hw := HW.out d (by omega)
        rw [← hp] at hw
        have hpb : p ≤ 3 * (d + 1) := by rw [hp]; exact Nat.mul_le_mul_right _ (by omega)
        have hpb2 : d + 1 ≤ p := by rw [hp]; exact Nat.le_mul_of_pos_left _ (by omega)
        have HP := Lib.hid hp
        have hgo : d < (n - (a + 1)) / (k - 1) ↔ a + 1 + p ≤ n := by
          rw [hp, Nat.lt_iff_add_one_le, Nat.le_div_iff_mul_le (by omega), Nat.mul_comm]
          omega
        clear hp
        have hkw : IntKind.i64.wrap ((k : Int) - 1) = (k : Int) - 1 := IntWalk.i64_in _ (by omega)
        by_cases hlt2 : a + 1 + p ≤ n
        · have hgo2 := hgo.2 hlt2
          clear hgo
          go_wp2_with fail
          go_loopg [8, 9] (k - 1) (fun g s v wr'' => ∃ (i : Nat) (b : Bool), s = .bool b ∧ v = .int .i64 i ∧ i ≤ k ∧ Hid (g = k - i ∧ b = (List.range i).all fun j => cs.getD (a + 1 + j * (d + 1) - 1) 0 == cs.getD (a + 1 - 1) 0) ∧ Hid (Below w.heap.size w wr''))
          case atStart => exact ⟨1, true, rfl, rfl, by omega, ⟨rfl, by simp [List.range_succ]⟩, HB2.out⟩
          case round =>
            obtain ⟨i, b, rfl, rfl, hi, HG3, HB3⟩ := hrel
            by_cases hlt3 : i < k
            · obtain ⟨q, hq⟩ : ∃ q, q = i * (d + 1) := ⟨_, rfl⟩
              have hqp : q ≤ p := by
                rw [hq, HP.out]; exact Nat.mul_le_mul_right _ (by omega)
              have hqz : ((i : Int) * ((d : Int) + 1)) = (q : Int) := by rw [hq]; simp
              have w1 : IntKind.i64.wrap ((i : Int) * ((d : Int) + 1)) = (q : Int) := by rw [hqz]; exact IntWalk.i64_in _ (by omega)
              have hidx : a + 1 + i * (d + 1) - 1 = a + q := by rw [← hq]; omega
              have px : a < cs.length := by have := HN.out; omega
              have py : a + q < cs.length := by have := HN.out; omega
              have HS : Hid (((List.range (i + 1)).all fun j => cs.getD (a + 1 + j * (d + 1) - 1) 0 == cs.getD (a + 1 - 1) 0) = (b && cs[a + q]'py == cs[a]'px)) := by
                show _ = _
                rw [all_range_succ, ← HG3.out.2, hidx, show a + 1 - 1 = a by omega]
                simp [List.getD_eq_getElem?_getD, px, py]
              have HQ := Lib.hid hq
              clear hq hqz hidx
              obtain ⟨bb, o, rfl, hb, hc1⟩ := HA.out.at a px
              obtain ⟨bb', o', e', _, hc2⟩ := HA.out.at (a + q) py
              cases e'
              have d1 := (HB3.out.cell (p := ⟨bb, o + a, none⟩) hb).trans hc1
              have d2 := (HB3.out.cell (p := ⟨bb, o + (a + q), none⟩) hb).trans hc2
              clear hc1 hc2
              have b1 : (0 : Int) ≤ a ∧ (a : Int) < n := by omega
              have b2 : (0 : Int) ≤ ((a + q : Nat) : Int) ∧ ((a + q : Nat) : Int) < n := by omega
              have w2 : IntKind.i64.wrap ((a : Int) + 1 + (q : Int)) = (a : Int) + 1 + (q : Int) := IntWalk.i64_in _ (by omega)
              have w3 : IntKind.i64.wrap ((a : Int) + 1 + (q : Int) - 1) = ((a + q : Nat) : Int) := by rw [IntWalk.i64_in _ (by omega)]; omega
              have w4 : IntKind.i64.wrap (a : Int) = a := IntWalk.i64_in _ (by omega)
              cases b
              · go_wp2_with fail
                go_quiet (fail)
                clear w1 w2 w3 w4
                go_wp2_with fail
                go_roundg (k - (i + 1))
                case measure => have := HG3.out.1; omega
                case rel => exact ⟨i + 1, false, rfl, by go_num, by omega, ⟨rfl, by rw [HS.out]; rfl⟩, below_drewN HB3.out _⟩
              · go_wp2_with fail
                go_quiet (fail)
                clear w1 w2 w3 w4
                go_wp2_with fail
                go_roundg (k - (i + 1))
                case measure => have := HG3.out.1; omega
                case rel => exact ⟨i + 1, _, rfl, by go_num, by omega, ⟨rfl, by rw [HS.out]; rfl⟩, below_drewN HB3.out _⟩
            · have hik : i = k := by omega
              have HOK : Hid (progOk cs k (a + 1) (d + 1) = b) := by
                have := HG3.out.2
                rw [hik] at this
                exact this.symm
              clear hik
              cases b
              · have HQ : Hid (progAt cs k (a + 1) (d + 1) = none) := by show _ = _; unfold progAt; rw [HOK.out]; rfl
                go_wp2_with fail
                go_roundg ((n - (a + 1)) / (k - 1) - (d + 1))
                case measure => have := HG2.out.1; omega
                case rel => exact ⟨d + 1, by go_num, by omega, ⟨rfl, by omega, by rw [HG2.out.2.2, show (n - (a + 1)) / (k - 1) - d = (n - (a + 1)) / (k - 1) - (d + 1) + 1 by omega, firstFrom_none HQ.out]⟩, HB3.out⟩
              · have HQ : Hid (progAt cs k (a + 1) (d + 1) = some [(a : Int) + 1, (d : Int) + 1]) := by show _ = _; unfold progAt; rw [HOK.out]; rfl
                go_wp2_with fail
                go_ret
                refine ⟨_, rfl, ?_, HB3.out.alloc (HB3.out.size) _⟩
                have e1 := HG2.out.2.2
                rw [show (n - (a + 1)) / (k - 1) - d = (n - (a + 1)) / (k - 1) - (d + 1) + 1 by omega, firstFrom_some HQ.out] at e1
                have e2 := HG.out.2
                rw [show n - a = n - (a + 1) + 1 by omega] at e2
                rw [e2.trans (firstFrom_some (g := fun a => firstFrom (progAt cs k a) ((n - a) / (k - 1)) 1) e1)]
                exact opt_two _ _ _ _ (by simp)
        · have hd : (n - (a + 1)) / (k - 1) - d = 0 := by
            have : ¬ d < (n - (a + 1)) / (k - 1) := fun h => hlt2 (hgo.1 h)
            omega
          have HD := Lib.hid hd
          clear hd hgo
          go_wp2_with fail
          go_roundg (n - (a + 1))
          case measure => have := HG.out.1; omega
          case rel =>
            refine ⟨a + 1, by go_num, by omega, ⟨rfl, ?_⟩, HB2.out⟩
            have e1 := HG2.out.2.2
            rw [HD.out] at e1
            rw [HG.out.2, show n - a = n - (a + 1) + 1 by omega]
            exact firstFrom_none (g := fun a => firstFrom (progAt cs k a) ((n - a) / (k - 1)) 1) e1
    · go_wp2_with fail
      go_ret
      refine ⟨_, rfl, ?_, HB.out⟩
      rw [HG.out.2, show n - a = 0 by omega]
      rfl

end Go.Proofs.Ytplafgmceggcnaa
