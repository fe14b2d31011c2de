/- What is proved: Norm of a quaternion of even coordinates. No condition beyond those in each statement. -/
import Derived.Test.YthnhmfmlhlpggaaR
import Derived.LoopN
namespace Go.Proofs.Ythnhmfmlhlpggaa
open Go.RowKit
set_option maxRecDepth 100000

set_option maxHeartbeats 4000000 in
theorem of_calls (a b c d : Int) (w : World) : Calls Try.prog 47 #[.agg #[.int .i64 a, .int .i64 b, .int .i64 c, .int .i64 d]] w fun e w' => e = .returned (.agg #[.int .i64 a, .int .i64 b, .int .i64 c, .int .i64 d]) ∧ Below w.heap.size w w' := by
  go_enter Try.func47, Try.ntmps47
  go_wp2_with fail
  refine bodyPost_ret (v := .agg #[.int .i64 a, .int .i64 b, .int .i64 c, .int .i64 d]) ?_ rfl ⟨rfl, ((Below.refl _ _).alloc (Nat.le_refl _) _).alloc (by simp) _⟩
  have hres : Try.f47.results = #[.cell 2 88] := by kernel_rfl
  simp only [results, hres]
  go_simp
theorem ix0 (a b c d : Value) (w : World) : (Instr.index 88 (.agg #[a, b, c, d]) (.int .i64 0)).run Try.prog w = .ok a w := by kernel_rfl
theorem ix1 (a b c d : Value) (w : World) : (Instr.index 88 (.agg #[a, b, c, d]) (.int .i64 1)).run Try.prog w = .ok b w := by kernel_rfl
theorem ix2 (a b c d : Value) (w : World) : (Instr.index 88 (.agg #[a, b, c, d]) (.int .i64 2)).run Try.prog w = .ok c w := by kernel_rfl
theorem ix3 (a b c d : Value) (w : World) : (Instr.index 88 (.agg #[a, b, c, d]) (.int .i64 3)).run Try.prog w = .ok d w := by kernel_rfl
theorem even0 : ∀ p : Nat, p < 1001 → bits .and .i64 (2 * (p : Int)) 1 = 0 := by decide +kernel
set_option maxHeartbeats 4000000 in
theorem integral_calls (a b c d : Int) (ha : bits .and .i64 a 1 = 0) (hb : bits .and .i64 b 1 = 0) (hc : bits .and .i64 c 1 = 0) (hd : bits .and .i64 d 1 = 0) (w : World) : Calls Try.prog 88 #[.agg #[.int .i64 a, .int .i64 b, .int .i64 c, .int .i64 d]] w fun e w' => e = .returned (.bool true) ∧ Below w.heap.size w w' := by
  go_enter Try.func88, Try.ntmps88
  go_wp2_with fail
  refine wp_loop_rounds 5 ?_
  rw [rounds_succ]
  go_wp2_with (rw [ix0])
  rw [rounds_succ]
  go_wp2_with (rw [ix1])
  rw [rounds_succ]
  go_wp2_with (rw [ix2])
  rw [rounds_succ]
  go_wp2_with (rw [ix3])
  rw [rounds_succ]
  go_wp2_with fail
  go_ret
  exact ⟨rfl, (Below.refl _ _).alloc (Nat.le_refl _) _⟩
set_option maxHeartbeats 4000000 in
theorem min4_calls (b : Nat) (x0 x1 x2 x3 : Int) (w : World) (c0 : w.cell? ⟨b, 0, none⟩ = some (.int .i64 x0)) (c1 : w.cell? ⟨b, 1, none⟩ = some (.int .i64 x1)) (c2 : w.cell? ⟨b, 2, none⟩ = some (.int .i64 x2)) (c3 : w.cell? ⟨b, 3, none⟩ = some (.int .i64 x3)) (h0 : 0 ≤ x0 ∧ x0 ≤ 1000) (h1 : 0 ≤ x1 ∧ x1 ≤ 1000) (h2 : 0 ≤ x2 ∧ x2 ≤ 1000) (h3 : 0 ≤ x3 ∧ x3 ≤ 1000) : Calls Try.prog 89 #[.slice (some ⟨b, 0, none⟩) 4 4] w fun e w' => ∃ m, e = .returned (.int .i64 m) ∧ (0 ≤ m ∧ m ≤ 1000) ∧ w = w' := by
  go_enter Try.func89, Try.ntmps89
  go_wp2_with fail
  go_loop [3, 4] (fun v3 v4 => ∃ (m : Int) (i : Nat), v3 = .int .i64 m ∧ v4 = .int .i64 i ∧ (0 ≤ m ∧ m ≤ 1000) ∧ i ≤ 4) (fun _ v4 => 4 - (intOf v4).toNat)
  case atStart => exact ⟨x0, 1, rfl, rfl, h0, by omega⟩
  case round =>
    obtain ⟨m, i, rfl, rfl, hm, hi⟩ := hrel
    by_cases hlt : i < 4
    · obtain ⟨x, hx, cx⟩ : ∃ x : Int, (0 ≤ x ∧ x ≤ 1000) ∧ w.cell? ⟨b, i, none⟩ = some (.int .i64 x) := by
        have : i = 0 ∨ i = 1 ∨ i = 2 ∨ i = 3 := by omega
        rcases this with rfl | rfl | rfl | rfl
        · exact ⟨x0, h0, c0⟩
        · exact ⟨x1, h1, c1⟩
        · exact ⟨x2, h2, c2⟩
        · exact ⟨x3, h3, c3⟩
      clear c0 c1 c2 c3
      go_wp2_with fail
      all_goals
        go_round
        case rel => exact ⟨_, i + 1, rfl, by go_num, by omega, hlt⟩
        case measure => simp [intOf]; omega
    · go_wp2_with fail
      go_ret
      exact ⟨m, rfl, hm, rfl⟩
set_option maxHeartbeats 4000000 in
theorem max4_calls (b : Nat) (x0 x1 x2 x3 : Int) (w : World) (c0 : w.cell? ⟨b, 0, none⟩ = some (.int .i64 x0)) (c1 : w.cell? ⟨b, 1, none⟩ = some (.int .i64 x1)) (c2 : w.cell? ⟨b, 2, none⟩ = some (.int .i64 x2)) (c3 : w.cell? ⟨b, 3, none⟩ = some (.int .i64 x3)) (h0 : 0 ≤ x0 ∧ x0 ≤ 1000) (h1 : 0 ≤ x1 ∧ x1 ≤ 1000) (h2 : 0 ≤ x2 ∧ x2 ≤ 1000) (h3 : 0 ≤ x3 ∧ x3 ≤ 1000) : Calls Try.prog 90 #[.slice (some ⟨b, 0, none⟩) 4 4] w fun e w' => ∃ m, e = .returned (.int .i64 m) ∧ (0 ≤ m ∧ m ≤ 1000) ∧ w = w' := by
  go_enter Try.func90, Try.ntmps90
  go_wp2_with fail
  go_loop [3, 4] (fun v3 v4 => ∃ (m : Int) (i : Nat), v3 = .int .i64 m ∧ v4 = .int .i64 i ∧ (0 ≤ m ∧ m ≤ 1000) ∧ i ≤ 4) (fun _ v4 => 4 - (intOf v4).toNat)
  case atStart => exact ⟨x0, 1, rfl, rfl, h0, by omega⟩
  case round =>
    obtain ⟨m, i, rfl, rfl, hm, hi⟩ := hrel
    by_cases hlt : i < 4
    · obtain ⟨x, hx, cx⟩ : ∃ x : Int, (0 ≤ x ∧ x ≤ 1000) ∧ w.cell? ⟨b, i, none⟩ = some (.int .i64 x) := by
        have : i = 0 ∨ i = 1 ∨ i = 2 ∨ i = 3 := by omega
        rcases this with rfl | rfl | rfl | rfl
        · exact ⟨x0, h0, c0⟩
        · exact ⟨x1, h1, c1⟩
        · exact ⟨x2, h2, c2⟩
        · exact ⟨x3, h3, c3⟩
      clear c0 c1 c2 c3
      go_wp2_with fail
      all_goals
        go_round
        case rel => exact ⟨_, i + 1, rfl, by go_num, by omega, hlt⟩
        case measure => simp [intOf]; omega
    · go_wp2_with fail
      go_ret
      exact ⟨m, rfl, hm, rfl⟩
theorem four_sq (p : Nat) : 2 * (p : Int) * (2 * (p : Int)) = 4 * ((p * p : Nat) : Int) := by
  rw [Int.natCast_mul, Int.mul_assoc 2, Int.mul_left_comm (p : Int) 2 p]
  omega
set_option maxHeartbeats 4000000 in
theorem qnorm_calls (p q r t n : Nat) (hn : p * p + q * q + r * r + t * t = n) (hn2 : n ≤ 100000) (w : World) : Calls Try.prog 48 #[.agg #[.int .i64 (2 * (p : Int)), .int .i64 (2 * (q : Int)), .int .i64 (2 * (r : Int)), .int .i64 (2 * (t : Int))]] w fun e w' => e = .returned (.int .i64 n) ∧ Below w.heap.size w w' := by
  obtain ⟨P, hP⟩ : ∃ P : Nat, P = p * p := ⟨_, rfl⟩
  obtain ⟨Q, hQ⟩ : ∃ Q : Nat, Q = q * q := ⟨_, rfl⟩
  obtain ⟨R, hR⟩ : ∃ R : Nat, R = r * r := ⟨_, rfl⟩
  obtain ⟨T, hT⟩ : ∃ T : Nat, T = t * t := ⟨_, rfl⟩
  have e1 : 2 * (p : Int) * (2 * (p : Int)) = 4 * (P : Int) := by rw [hP]; exact four_sq p
  have e2 : 2 * (q : Int) * (2 * (q : Int)) = 4 * (Q : Int) := by rw [hQ]; exact four_sq q
  have e3 : 2 * (r : Int) * (2 * (r : Int)) = 4 * (R : Int) := by rw [hR]; exact four_sq r
  have e4 : 2 * (t : Int) * (2 * (t : Int)) = 4 * (T : Int) := by rw [hT]; exact four_sq t
  rw [← hP, ← hQ, ← hR, ← hT] at hn
  have hd : Int.tdiv (4 * (P : Int) + 4 * (Q : Int) + 4 * (R : Int) + 4 * (T : Int)) 4 = (n : Int) := by
    rw [Int.tdiv_eq_ediv_of_nonneg (by omega)]
    omega
  have hb : 4 * (P : Int) + 4 * (Q : Int) + 4 * (R : Int) + 4 * (T : Int) ≤ 400000 := by omega
  clear hP hQ hR hT hn
  go_enter Try.func48, Try.ntmps48
  go_wp2_with fail
  go_ret
  exact ⟨rfl, (Below.refl _ _).alloc (Nat.le_refl _) _⟩
/-- A quaternion in a block. -/
def Qd (w : World) (B : Nat) (a b c d : Int) : Prop := B < w.heap.size ∧ w.cell? ⟨B, 0, none⟩ = some (.int .i64 a) ∧ w.cell? ⟨B, 1, none⟩ = some (.int .i64 b) ∧ w.cell? ⟨B, 2, none⟩ = some (.int .i64 c) ∧ w.cell? ⟨B, 3, none⟩ = some (.int .i64 d)
theorem Qd.below {w w' : World} {B : Nat} {a b c d : Int} (h : Qd w B a b c d) (hb : Below w.heap.size w w') : Qd w' B a b c d :=
  ⟨Nat.lt_of_lt_of_le h.1 hb.size, (hb.cell (p := ⟨B, 0, none⟩) h.1).trans h.2.1, (hb.cell (p := ⟨B, 1, none⟩) h.1).trans h.2.2.1, (hb.cell (p := ⟨B, 2, none⟩) h.1).trans h.2.2.2.1, (hb.cell (p := ⟨B, 3, none⟩) h.1).trans h.2.2.2.2⟩
theorem qd_new (w : World) (a b c d : Int) (t : Nat) : Qd (w.alloc (.cells #[.int .i64 a, .int .i64 b, .int .i64 c, .int .i64 d] t)) w.heap.size a b c d :=
  ⟨by simp, World.cell?_alloc_at _ _ _ _ rfl, World.cell?_alloc_at _ _ _ _ rfl, World.cell?_alloc_at _ _ _ _ rfl, World.cell?_alloc_at _ _ _ _ rfl⟩
set_option maxHeartbeats 8000000 in
theorem qcheck_calls (B : Nat) (a b c d : Int) (w : World) (h : Qd w B a b c d) (ha : bits .and .i64 a 1 = 0) (hb : bits .and .i64 b 1 = 0) (hc : bits .and .i64 c 1 = 0) (hd : bits .and .i64 d 1 = 0) (h0 : 0 ≤ a ∧ a ≤ 1000) (h1 : 0 ≤ b ∧ b ≤ 1000) (h2 : 0 ≤ c ∧ c ≤ 1000) (h3 : 0 ≤ d ∧ d ≤ 1000) : Calls Try.prog 46 #[.slice (some ⟨B, 0, none⟩) 1 1] w fun e w' => e = .returned (.int .i64 0) ∧ Below w.heap.size w w' := by
  have CI := Lib.hid (integral_calls a b c d ha hb hc hd)
  have CO := Lib.hid (of_calls a b c d)
  have CN : Hid (∀ w1 Q, Qd w1 Q a b c d → Calls Try.prog 89 #[.slice (some ⟨Q, 0, none⟩) 4 4] w1 fun e w' => ∃ m, e = .returned (.int .i64 m) ∧ (0 ≤ m ∧ m ≤ 1000) ∧ w1 = w') := fun w1 Q q => min4_calls Q a b c d w1 q.2.1 q.2.2.1 q.2.2.2.1 q.2.2.2.2 h0 h1 h2 h3
  have CX : Hid (∀ w1 Q, Qd w1 Q a b c d → Calls Try.prog 90 #[.slice (some ⟨Q, 0, none⟩) 4 4] w1 fun e w' => ∃ m, e = .returned (.int .i64 m) ∧ (0 ≤ m ∧ m ≤ 1000) ∧ w1 = w') := fun w1 Q q => max4_calls Q a b c d w1 q.2.1 q.2.2.1 q.2.2.2.1 q.2.2.2.2 h0 h1 h2 h3
  have H := Lib.hid h
  obtain ⟨hB, c0, c1, c2, c3⟩ := h
  clear ha hb hc hd h0 h1 h2 h3
  go_enter Try.func46, Try.ntmps46
  go_wp2_with fail
  refine wp_loop_rounds 2 ?_
  rw [rounds_succ]
  go_wp2_with fail
  have b1 : Below w.heap.size w (w.alloc (.cells #[.int .i64 a, .int .i64 b, .int .i64 c, .int .i64 d] 42)) := (Below.refl _ _).alloc (Nat.le_refl _) _
  refine (CO.out _).mono ?_
  rintro e w1 ⟨rfl, hb⟩
  have HB1 := Lib.hid (b1.trans (hb.mono b1.size))
  clear b1 hb c0 c1 c2 c3
  go_wp2_with fail
  refine (CI.out _).mono ?_
  rintro e w2 ⟨rfl, hb⟩
  have HB2 := Lib.hid (HB1.out.trans (hb.mono HB1.out.size))
  clear hb HB1
  go_wp2_with fail
  rw [rounds_succ]
  go_wp2_with fail
  refine wp_loop_rounds 2 ?_
  obtain ⟨hB2, c0, c1, c2, c3⟩ := H.out.below HB2.out
  rw [rounds_succ]
  go_wp2_with fail
  have b1 : Below w2.heap.size w2 (w2.alloc (.cells #[.int .i64 a, .int .i64 b, .int .i64 c, .int .i64 d] 42)) := (Below.refl _ _).alloc (Nat.le_refl _) _
  refine (CO.out _).mono ?_
  rintro e w3 ⟨rfl, hb⟩
  have HB3 := Lib.hid (HB2.out.trans ((b1.trans (hb.mono b1.size)).mono HB2.out.size))
  have HQ := Lib.hid (qd_new w3 a b c d 88)
  clear b1 hb c0 c1 c2 c3
  go_wp2_with fail
  refine (CN.out _ _ HQ.out).mono ?_
  rintro e w4 ⟨m, rfl, hm, rfl⟩
  go_wp2_with fail
  refine (CX.out _ _ HQ.out).mono ?_
  rintro e w4 ⟨m2, rfl, hm2, rfl⟩
  go_wp2_with fail
  rw [rounds_succ]
  go_wp2_with fail
  go_ret
  exact ⟨rfl, HB3.out.alloc HB3.out.size _⟩
set_option maxHeartbeats 4000000 in
theorem Norm_calls (p q r t n : Nat) (hn : p * p + q * q + r * r + t * t = n) (hn2 : n ≤ 100000) (hp : p ≤ 500) (hq : q ≤ 500) (hr : r ≤ 500) (ht : t ≤ 500) (w : World) : Calls Try.prog 14 #[.agg #[.int .i64 (2 * (p : Int)), .int .i64 (2 * (q : Int)), .int .i64 (2 * (r : Int)), .int .i64 (2 * (t : Int))]] w fun e w' => e = .returned (.tuple #[.int .i64 n, .int .i64 0]) ∧ Below w.heap.size w w' := by
  have CN := Lib.hid (qnorm_calls p q r t n hn hn2)
  obtain ⟨a, ha⟩ : ∃ a : Int, a = 2 * (p : Int) := ⟨_, rfl⟩
  obtain ⟨b, hb⟩ : ∃ a : Int, a = 2 * (q : Int) := ⟨_, rfl⟩
  obtain ⟨c, hc⟩ : ∃ a : Int, a = 2 * (r : Int) := ⟨_, rfl⟩
  obtain ⟨d, hd⟩ : ∃ a : Int, a = 2 * (t : Int) := ⟨_, rfl⟩
  have CC : Hid (∀ w1 Q, Qd w1 Q a b c d → Calls Try.prog 46 #[.slice (some ⟨Q, 0, none⟩) 1 1] w1 fun e w' => e = .returned (.int .i64 0) ∧ Below w1.heap.size w1 w') := fun w1 Q h => qcheck_calls Q a b c d w1 h (by rw [ha]; exact even0 p (by omega)) (by rw [hb]; exact even0 q (by omega)) (by rw [hc]; exact even0 r (by omega)) (by rw [hd]; exact even0 t (by omega)) (by omega) (by omega) (by omega) (by omega)
  rw [← ha, ← hb, ← hc, ← hd] at CN ⊢
  have CO := Lib.hid (of_calls a b c d)
  clear ha hb hc hd hn hn2 hp hq hr ht
  have hq1 := qd_new w a b c d 42
  have hq2 : Qd ((w.alloc (.cells #[.int .i64 a, .int .i64 b, .int .i64 c, .int .i64 d] 42)).alloc (.cells #[.int .i64 a, .int .i64 b, .int .i64 c, .int .i64 d] 42)) (w.heap.size + 1) a b c d := by
    have := qd_new (w.alloc (.cells #[.int .i64 a, .int .i64 b, .int .i64 c, .int .i64 d] 42)) a b c d 42
    rw [World.size_alloc] at this
    exact this
  have HQ2 := Lib.hid hq2
  have hb2 : Below (w.alloc (.cells #[.int .i64 a, .int .i64 b, .int .i64 c, .int .i64 d] 42)).heap.size (w.alloc (.cells #[.int .i64 a, .int .i64 b, .int .i64 c, .int .i64 d] 42)) ((w.alloc (.cells #[.int .i64 a, .int .i64 b, .int .i64 c, .int .i64 d] 42)).alloc (.cells #[.int .i64 a, .int .i64 b, .int .i64 c, .int .i64 d] 42)) := (Below.refl _ _).alloc (Nat.le_refl _) _
  have HQ1 := Lib.hid (hq1.below hb2)
  have HB := Lib.hid (((Below.refl w.heap.size w).alloc (Nat.le_refl _) (.cells #[.int .i64 a, .int .i64 b, .int .i64 c, .int .i64 d] 42)).trans (hb2.mono (by simp)))
  clear hq1 hq2 hb2
  go_enter Try.func14, Try.ntmps14
  go_wp2_with fail
  refine (CC.out _ _ HQ2.out).mono ?_
  rintro e w3 ⟨rfl, hb⟩
  obtain ⟨_, c0, c1, c2, c3⟩ := HQ1.out.below hb
  have HB3 := Lib.hid (HB.out.trans (hb.mono HB.out.size))
  clear hb
  go_wp2_with fail
  refine (CO.out _).mono ?_
  rintro e w4 ⟨rfl, hb⟩
  have HB4 := Lib.hid (HB3.out.trans (hb.mono HB3.out.size))
  clear hb c0 c1 c2 c3
  go_wp2_with fail
  refine (CN.out _).mono ?_
  rintro e w5 ⟨rfl, hb⟩
  have HB5 := Lib.hid (HB4.out.trans (hb.mono HB4.out.size))
  clear hb
  go_wp2_with fail
  go_ret2
  exact ⟨rfl, HB5.out⟩
end Go.Proofs.Ythnhmfmlhlpggaa
