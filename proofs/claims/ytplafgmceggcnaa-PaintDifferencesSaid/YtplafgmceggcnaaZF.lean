/- What is proved: the law of avoided patterns, its walk. No condition beyond those in each statement. -/
import Derived.Test.YtplafgmceggcnaaZD
import Derived.Deep.RegionHeld3
namespace Go.Proofs.Ytplafgmceggcnaa
open Go.RowKit

theorem avoid_way {n a b : Nat} (hn : 1 ≤ n ∧ n ≤ 8) (ha : 2 ≤ a ∧ a ≤ 4) (hb : 2 ≤ b ∧ b ≤ 4) :
    (∃ xs, AvoidR n a b = .ok xs ∧ CliqueR n xs 0 a = (none, 5) ∧ CliqueR n xs 1 b = (none, 5)) ∨ AvoidR n a b = .error 5 := by
  obtain ⟨h1, h2⟩ := avoidR_ends n a b (by omega)
  cases hq : (avoidL n a b).head?.isSome
  · exact .inr (h2 hq)
  · obtain ⟨xs, g1, _, g3⟩ := h1 hq
    have := free_clique hn ha hb g3
    exact .inl ⟨xs, g1, this.1, this.2⟩
theorem sumless_way {n r : Nat} (hn : 1 ≤ n ∧ n ≤ 14) (hr : 1 ≤ r ∧ r ≤ 3) : (∃ s, SumlessR n r = .ok s ∧ SumR s = (none, 5)) ∨ SumlessR n r = .error 5 := by
  rw [SumlessR_ok (by omega)]
  cases hq : (sumlessL n r).head? with
  | none => exact .inr rfl
  | some s => exact .inl ⟨s, rfl, (sumless_none hn hr.2 (List.mem_of_mem_head? hq)).1⟩
theorem stepless_way {n r k : Nat} (hn : 1 ≤ n ∧ n ≤ 20) (hr : 1 ≤ r ∧ r ≤ 3) (hk : k = 3 ∨ k = 4) : (∃ s, SteplessR n r k = .ok s ∧ ProgR s k = (none, 5)) ∨ SteplessR n r k = .error 5 := by
  rw [SteplessR_ok (by omega)]
  cases hq : (steplessL n r k).head? with
  | none => exact .inr rfl
  | some s => exact .inl ⟨s, rfl, (stepless_none hn hr.2 hk (List.mem_of_mem_head? hq)).1⟩
theorem keepYY {W1 w' : World} {p1 p2 : Addr} {v1 v2 : Value} (d1 : W1.cell? p1 = some v1) (d2 : W1.cell? p2 = some v2) (hb : Below W1.heap.size W1 w') :
    w'.cell? p1 = some v1 ∧ w'.cell? p2 = some v2 ∧ Below W1.heap.size W1 w' :=
  ⟨(hb.cell (World.block_lt_of_cell? _ _ d1)).trans d1, (hb.cell (World.block_lt_of_cell? _ _ d2)).trans d2, hb⟩
theorem between_nat (x lo hi : Int) (hx : 0 ≤ x ∧ x ≤ 255) (h0 : 0 ≤ lo) (h1 : lo ≤ hi) (h2 : hi ≤ 100) : ∃ n : Nat, lo ≤ n ∧ n ≤ hi ∧ ∀ w : World, Calls Try.prog 33 #[.int .u8 x, .int .i64 lo, .int .i64 hi] w fun e w' => e = .returned (.int .i64 n) ∧ w = w' := by
  have hb := betw_in (x := x) (lo := lo) (hi := hi) (by omega)
  refine ⟨(betw x lo hi).toNat, by omega, by omega, fun w => ?_⟩
  refine (between_calls x lo hi w hx (by omega) (by omega) (by omega)).mono ?_
  rintro e w' ⟨rfl, rfl⟩
  exact ⟨ret_int (by omega), rfl⟩

set_option maxHeartbeats 8000000 in
theorem avoidedlaw_calls (x0 x1 x2 y0 y1 k : Int) (h0 : 0 ≤ x0 ∧ x0 ≤ 255) (h1 : 0 ≤ x1 ∧ x1 ≤ 255) (h2 : 0 ≤ x2 ∧ x2 ≤ 255) (h3 : 0 ≤ y0 ∧ y0 ≤ 255) (h4 : 0 ≤ y1 ∧ y1 ≤ 255) (h5 : 0 ≤ k ∧ k ≤ 255) (w : World) :
    Calls Try.prog 8 #[.agg #[.int .u8 x0, .int .u8 x1, .int .u8 x2], .agg #[.int .u8 y0, .int .u8 y1], .int .u8 k] w fun e w' => e = .returned (.bool true) ∧ Below w.heap.size w w' := by
  obtain ⟨n, n1, n2, cb1⟩ := between_nat x0 1 8 h0 (by omega) (by omega) (by omega)
  obtain ⟨a, a1, a2, cb2⟩ := between_nat x1 2 4 h1 (by omega) (by omega) (by omega)
  obtain ⟨b, b1, b2, cb3⟩ := between_nat x2 2 4 h2 (by omega) (by omega) (by omega)
  obtain ⟨m, m1, m2, cb4⟩ := between_nat y0 1 14 h3 (by omega) (by omega) (by omega)
  obtain ⟨r, r1, r2, cb5⟩ := between_nat y1 1 3 h4 (by omega) (by omega) (by omega)
  obtain ⟨t, t1, t2, cb6⟩ := between_nat k 3 4 h5 (by omega) (by omega) (by omega)
  obtain ⟨m', m3, m4, cb7⟩ := between_nat y0 1 12 h3 (by omega) (by omega) (by omega)
  obtain ⟨r', r3, r4, cb8⟩ := between_nat y1 1 2 h4 (by omega) (by omega) (by omega)
  have WA := avoid_way (n := n) (a := a) (b := b) (by omega) (by omega) (by omega)
  have WB := sumless_way (n := m) (r := r) (by omega) (by omega)
  have WC := stepless_way (n := m') (r := r') (k := t) (by omega) (by omega) (by omega)
  have C1 := Lib.hid (avoid_calls n a b)
  have C2 := Lib.hid (sumless_calls m r)
  have C3 := Lib.hid (stepless_calls m' r' t)
  obtain ⟨wa, hwa⟩ : ∃ wa, wa = w.alloc (.cells #[.int .u8 x0, .int .u8 x1, .int .u8 x2] 42) := ⟨_, rfl⟩
  obtain ⟨wb, hwb⟩ : ∃ wb, wb = wa.alloc (.cells #[.int .u8 y0, .int .u8 y1] 43) := ⟨_, rfl⟩
  have hsa : wa.heap.size = w.heap.size + 1 := by rw [hwa]; simp
  have hsb : wb.heap.size = w.heap.size + 2 := by rw [hwb]; simp [hsa]
  have hBa : Below w.heap.size w wb := by rw [hwb, hwa]; exact ((Below.refl _ _).alloc (Nat.le_refl _) _).alloc (by simp) _
  obtain ⟨e0, e1, e2⟩ := box_arr3 w (.int .u8 x0) (.int .u8 x1) (.int .u8 x2) 42
  obtain ⟨e3, e4⟩ := box_arr2 wa (.int .u8 y0) (.int .u8 y1) 43
  rw [← hwa] at e0 e1 e2
  rw [← hwb, hsa] at e3 e4
  have hab : Below wa.heap.size wa wb := by rw [hwb]; exact (Below.refl _ _).alloc (Nat.le_refl _) _
  have d0 : wb.cell? ⟨w.heap.size, 0, none⟩ = some (.int .u8 x0) := (hab.cell (World.block_lt_of_cell? _ _ e0)).trans e0
  have d1 : wb.cell? ⟨w.heap.size, 1, none⟩ = some (.int .u8 x1) := (hab.cell (World.block_lt_of_cell? _ _ e1)).trans e1
  have d2 : wb.cell? ⟨w.heap.size, 2, none⟩ = some (.int .u8 x2) := (hab.cell (World.block_lt_of_cell? _ _ e2)).trans e2
  have HBa := Lib.hid hBa
  have HWB : Hid (wb = (w.alloc (.cells #[.int .u8 x0, .int .u8 x1, .int .u8 x2] 42)).alloc (.cells #[.int .u8 y0, .int .u8 y1] 43)) := by rw [← hwa]; exact hwb
  have Q1 := Lib.hid (fun i : Nat => Calls.quiet_of_same (w := wb) (n := i) ((cb1 _).mono fun e w' h => ⟨h.1, h.2.symm⟩))
  have Q2 := Lib.hid (fun i : Nat => Calls.quiet_of_same (w := wb) (n := i) ((cb2 _).mono fun e w' h => ⟨h.1, h.2.symm⟩))
  have Q3 := Lib.hid (fun i : Nat => Calls.quiet_of_same (w := wb) (n := i) ((cb3 _).mono fun e w' h => ⟨h.1, h.2.symm⟩))
  have CB4 := Lib.hid cb4
  have CB5 := Lib.hid cb5
  have CB6 := Lib.hid cb6
  have CB7 := Lib.hid cb7
  have CB8 := Lib.hid cb8
  have E3 := Lib.hid e3
  have E4 := Lib.hid e4
  have HSB := Lib.hid hsb
  clear hBa hwa hwb hsa hsb e0 e1 e2 e3 e4 hab cb1 cb2 cb3 cb4 cb5 cb6 cb7 cb8
  rcases WA with WA | WA
  · rcases WB with WB | WB
    · rcases WC with WC | WC
      · obtain ⟨xs, p1, p2, p3⟩ := WA
        have HP1 := Lib.hid p1
        have HP2 := Lib.hid p2
        have HP3 := Lib.hid p3
        clear p1 p2 p3
        obtain ⟨ys, p1, p2⟩ := WB
        have HP4 := Lib.hid p1
        have HP5 := Lib.hid p2
        clear p1 p2
        obtain ⟨zs, p1, p2⟩ := WC
        have HP6 := Lib.hid p1
        have HP7 := Lib.hid p2
        clear p1 p2
        go_enter Try.func8, Try.ntmps8
        go_wp2_with fail
        rw [← HWB.out]
        go_quiet ((go_at_call 33; first | (with_reducible exact Q1.out _) | (with_reducible exact Q2.out _) | (with_reducible exact Q3.out _)))
        obtain ⟨W, hW⟩ : ∃ W, W = wb.drewN nq := ⟨_, rfl⟩
        have HBb : Hid (Below w.heap.size w W) := by rw [hW]; exact below_drewN HBa.out nq
        have F3 : Hid (W.cell? ⟨w.heap.size + 1, 0, none⟩ = some (.int .u8 y0)) := by rw [hW]; exact E3.out
        have F4 : Hid (W.cell? ⟨w.heap.size + 1, 1, none⟩ = some (.int .u8 y1)) := by rw [hW]; exact E4.out
        have HS : Hid (w.heap.size + 1 < W.heap.size) := by rw [hW]; show w.heap.size + 1 < wb.heap.size; rw [HSB.out]; omega
        rw [← hW]
        clear d0 d1 d2 hW
        have HW := Lib.hid (Below.refl W.heap.size W)
        go_wp2_with fail
        refine (C1.out _).mono ?_
        rw [HP1.out]
        rintro e w1 ⟨A1, nx, c1, rfl, g1, g2, g3, g4, hB⟩
        have HN := Lib.hid g1
        have HR := Lib.hid g4
        clear g1 g4
        have HW := Lib.hid (HW.out.trans (hB.mono HW.out.size))
        clear hB
        go_wp2_with fail
        refine (Clique_calls n 0 a A1 nx c1 xs _ HN.out HR.out g2 g3).mono ?_
        rw [HP2.out]
        rintro e w2 ⟨v, rfl, ho, hB⟩
        obtain rfl : v = .slice none 0 0 := ho
        have HR := Lib.hid (HR.out.below hB)
        have HW := Lib.hid (HW.out.trans (hB.mono HW.out.size))
        clear hB
        go_wp2_with fail
        refine (Clique_calls n 1 b A1 nx c1 xs _ HN.out HR.out g2 g3).mono ?_
        rw [HP3.out]
        rintro e w2 ⟨v, rfl, ho, hB⟩
        obtain rfl : v = .slice none 0 0 := ho
        have HW := Lib.hid (HW.out.trans (hB.mono HW.out.size))
        clear hB
        go_wp2_with fail
        have d3 := (HW.out.cell (p := ⟨w.heap.size + 1, 0, none⟩) HS.out).trans F3.out
        have d4 := (HW.out.cell (p := ⟨w.heap.size + 1, 1, none⟩) HS.out).trans F4.out
        go_region_held3 (fun w' => w'.cell? ⟨w.heap.size + 1, 0, none⟩ = some (.int .u8 y0) ∧ w'.cell? ⟨w.heap.size + 1, 1, none⟩ = some (.int .u8 y1) ∧ Below W.heap.size W w')
          ((refine keepYY F3.out F4.out ?_; first | exact HW.out.drew | exact HW.out.drew.trans (Below.mono (by assumption) HW.out.drew.size)))
          ((first | (go_at_call 33; (with_reducible refine (CB4.out _).mono ?_); rintro e u' ⟨rfl, rfl⟩) | (go_at_call 33; (with_reducible refine (CB5.out _).mono ?_); rintro e u' ⟨rfl, rfl⟩) | (go_at_call 27; (with_reducible refine (C2.out _).mono ?_); rw [HP4.out]; rintro e w5 ⟨A5, n5, c5, rfl, g51, g52, g53, g54, hB5⟩; have HN5 := Lib.hid g51; have HR5 := Lib.hid g54; clear g51 g54)))
        have HW := Lib.hid (HW.out.drew.trans (hB5.mono HW.out.drew.size))
        clear d3 d4 hB5
        go_wp2_with fail
        refine (Sum_calls A5 n5 c5 ys _ HN5.out HR5.out g52 g53).mono ?_
        rw [HP5.out]
        rintro e w6 ⟨v, rfl, ho, hB⟩
        obtain rfl : v = .slice none 0 0 := ho
        have HW := Lib.hid (HW.out.trans (hB.mono HW.out.size))
        clear hB
        go_wp2_with fail
        refine (CB6.out _).mono ?_
        rintro e u6 ⟨rfl, rfl⟩
        go_wp2_with fail
        have d3 := (HW.out.cell (p := ⟨w.heap.size + 1, 0, none⟩) HS.out).trans F3.out
        have d4 := (HW.out.cell (p := ⟨w.heap.size + 1, 1, none⟩) HS.out).trans F4.out
        go_region_held3 (fun w' => w'.cell? ⟨w.heap.size + 1, 0, none⟩ = some (.int .u8 y0) ∧ w'.cell? ⟨w.heap.size + 1, 1, none⟩ = some (.int .u8 y1) ∧ Below W.heap.size W w')
          ((refine keepYY F3.out F4.out ?_; first | exact HW.out.drew | exact HW.out.drew.trans (Below.mono (by assumption) HW.out.drew.size)))
          ((first | (go_at_call 33; (with_reducible refine (CB7.out _).mono ?_); rintro e u' ⟨rfl, rfl⟩) | (go_at_call 33; (with_reducible refine (CB8.out _).mono ?_); rintro e u' ⟨rfl, rfl⟩) | (go_at_call 31; (with_reducible refine (C3.out _).mono ?_); rw [HP6.out]; rintro e w7 ⟨A7, n7, c7, rfl, g71, g72, g73, g74, hB7⟩; have HN7 := Lib.hid g71; have HR7 := Lib.hid g74; clear g71 g74)))
        have HW := Lib.hid (HW.out.drew.trans (hB7.mono HW.out.drew.size))
        clear d3 d4 hB7
        go_wp2_with fail
        refine (Progression_calls A7 n7 c7 zs t _ HN7.out HR7.out g72 g73).mono ?_
        rw [HP7.out]
        rintro e w8 ⟨v, rfl, ho, hB⟩
        obtain rfl : v = .slice none 0 0 := ho
        have HW := Lib.hid (HW.out.trans (hB.mono HW.out.size))
        clear hB
        go_wp2_with fail
        refine (lives_calls _).mono ?_
        rintro e x9 ⟨rfl, hB⟩
        have HX9 := Lib.hid (HBb.out.trans ((HW.out.trans (hB.mono HW.out.size)).mono HBb.out.size))
        clear hB
        go_wp2_with fail
        go_ret
        exact ⟨rfl, HX9.out⟩
      · obtain ⟨xs, p1, p2, p3⟩ := WA
        have HP1 := Lib.hid p1
        have HP2 := Lib.hid p2
        have HP3 := Lib.hid p3
        clear p1 p2 p3
        obtain ⟨ys, p1, p2⟩ := WB
        have HP4 := Lib.hid p1
        have HP5 := Lib.hid p2
        clear p1 p2
        have HP6 := Lib.hid WC
        clear WC
        go_enter Try.func8, Try.ntmps8
        go_wp2_with fail
        rw [← HWB.out]
        go_quiet ((go_at_call 33; first | (with_reducible exact Q1.out _) | (with_reducible exact Q2.out _) | (with_reducible exact Q3.out _)))
        obtain ⟨W, hW⟩ : ∃ W, W = wb.drewN nq := ⟨_, rfl⟩
        have HBb : Hid (Below w.heap.size w W) := by rw [hW]; exact below_drewN HBa.out nq
        have F3 : Hid (W.cell? ⟨w.heap.size + 1, 0, none⟩ = some (.int .u8 y0)) := by rw [hW]; exact E3.out
        have F4 : Hid (W.cell? ⟨w.heap.size + 1, 1, none⟩ = some (.int .u8 y1)) := by rw [hW]; exact E4.out
        have HS : Hid (w.heap.size + 1 < W.heap.size) := by rw [hW]; show w.heap.size + 1 < wb.heap.size; rw [HSB.out]; omega
        rw [← hW]
        clear d0 d1 d2 hW
        have HW := Lib.hid (Below.refl W.heap.size W)
        go_wp2_with fail
        refine (C1.out _).mono ?_
        rw [HP1.out]
        rintro e w1 ⟨A1, nx, c1, rfl, g1, g2, g3, g4, hB⟩
        have HN := Lib.hid g1
        have HR := Lib.hid g4
        clear g1 g4
        have HW := Lib.hid (HW.out.trans (hB.mono HW.out.size))
        clear hB
        go_wp2_with fail
        refine (Clique_calls n 0 a A1 nx c1 xs _ HN.out HR.out g2 g3).mono ?_
        rw [HP2.out]
        rintro e w2 ⟨v, rfl, ho, hB⟩
        obtain rfl : v = .slice none 0 0 := ho
        have HR := Lib.hid (HR.out.below hB)
        have HW := Lib.hid (HW.out.trans (hB.mono HW.out.size))
        clear hB
        go_wp2_with fail
        refine (Clique_calls n 1 b A1 nx c1 xs _ HN.out HR.out g2 g3).mono ?_
        rw [HP3.out]
        rintro e w2 ⟨v, rfl, ho, hB⟩
        obtain rfl : v = .slice none 0 0 := ho
        have HW := Lib.hid (HW.out.trans (hB.mono HW.out.size))
        clear hB
        go_wp2_with fail
        have d3 := (HW.out.cell (p := ⟨w.heap.size + 1, 0, none⟩) HS.out).trans F3.out
        have d4 := (HW.out.cell (p := ⟨w.heap.size + 1, 1, none⟩) HS.out).trans F4.out
        go_region_held3 (fun w' => w'.cell? ⟨w.heap.size + 1, 0, none⟩ = some (.int .u8 y0) ∧ w'.cell? ⟨w.heap.size + 1, 1, none⟩ = some (.int .u8 y1) ∧ Below W.heap.size W w')
          ((refine keepYY F3.out F4.out ?_; first | exact HW.out.drew | exact HW.out.drew.trans (Below.mono (by assumption) HW.out.drew.size)))
          ((first | (go_at_call 33; (with_reducible refine (CB4.out _).mono ?_); rintro e u' ⟨rfl, rfl⟩) | (go_at_call 33; (with_reducible refine (CB5.out _).mono ?_); rintro e u' ⟨rfl, rfl⟩) | (go_at_call 27; (with_reducible refine (C2.out _).mono ?_); rw [HP4.out]; rintro e w5 ⟨A5, n5, c5, rfl, g51, g52, g53, g54, hB5⟩; have HN5 := Lib.hid g51; have HR5 := Lib.hid g54; clear g51 g54)))
        have HW := Lib.hid (HW.out.drew.trans (hB5.mono HW.out.drew.size))
        clear d3 d4 hB5
        go_wp2_with fail
        refine (Sum_calls A5 n5 c5 ys _ HN5.out HR5.out g52 g53).mono ?_
        rw [HP5.out]
        rintro e w6 ⟨v, rfl, ho, hB⟩
        obtain rfl : v = .slice none 0 0 := ho
        have HW := Lib.hid (HW.out.trans (hB.mono HW.out.size))
        clear hB
        go_wp2_with fail
        refine (CB6.out _).mono ?_
        rintro e u6 ⟨rfl, rfl⟩
        go_wp2_with fail
        have d3 := (HW.out.cell (p := ⟨w.heap.size + 1, 0, none⟩) HS.out).trans F3.out
        have d4 := (HW.out.cell (p := ⟨w.heap.size + 1, 1, none⟩) HS.out).trans F4.out
        go_region_held3 (fun w' => w'.cell? ⟨w.heap.size + 1, 0, none⟩ = some (.int .u8 y0) ∧ w'.cell? ⟨w.heap.size + 1, 1, none⟩ = some (.int .u8 y1) ∧ Below W.heap.size W w')
          ((refine keepYY F3.out F4.out ?_; first | exact HW.out.drew | exact HW.out.drew.trans (Below.mono (by assumption) HW.out.drew.size)))
          ((first | (go_at_call 33; (with_reducible refine (CB7.out _).mono ?_); rintro e u' ⟨rfl, rfl⟩) | (go_at_call 33; (with_reducible refine (CB8.out _).mono ?_); rintro e u' ⟨rfl, rfl⟩) | (go_at_call 31; (with_reducible refine (C3.out _).mono ?_); rw [HP6.out]; rintro e w7 ⟨rfl, hB7⟩)))
        have HW := Lib.hid (HW.out.drew.trans (hB7.mono HW.out.drew.size))
        clear d3 d4 hB7
        go_wp2_with fail
        refine (lives_calls _).mono ?_
        rintro e x9 ⟨rfl, hB⟩
        have HX9 := Lib.hid (HBb.out.trans ((HW.out.trans (hB.mono HW.out.size)).mono HBb.out.size))
        clear hB
        go_wp2_with fail
        go_ret
        exact ⟨rfl, HX9.out⟩
    · rcases WC with WC | WC
      · obtain ⟨xs, p1, p2, p3⟩ := WA
        have HP1 := Lib.hid p1
        have HP2 := Lib.hid p2
        have HP3 := Lib.hid p3
        clear p1 p2 p3
        have HP4 := Lib.hid WB
        clear WB
        obtain ⟨zs, p1, p2⟩ := WC
        have HP6 := Lib.hid p1
        have HP7 := Lib.hid p2
        clear p1 p2
        go_enter Try.func8, Try.ntmps8
        go_wp2_with fail
        rw [← HWB.out]
        go_quiet ((go_at_call 33; first | (with_reducible exact Q1.out _) | (with_reducible exact Q2.out _) | (with_reducible exact Q3.out _)))
        obtain ⟨W, hW⟩ : ∃ W, W = wb.drewN nq := ⟨_, rfl⟩
        have HBb : Hid (Below w.heap.size w W) := by rw [hW]; exact below_drewN HBa.out nq
        have F3 : Hid (W.cell? ⟨w.heap.size + 1, 0, none⟩ = some (.int .u8 y0)) := by rw [hW]; exact E3.out
        have F4 : Hid (W.cell? ⟨w.heap.size + 1, 1, none⟩ = some (.int .u8 y1)) := by rw [hW]; exact E4.out
        have HS : Hid (w.heap.size + 1 < W.heap.size) := by rw [hW]; show w.heap.size + 1 < wb.heap.size; rw [HSB.out]; omega
        rw [← hW]
        clear d0 d1 d2 hW
        have HW := Lib.hid (Below.refl W.heap.size W)
        go_wp2_with fail
        refine (C1.out _).mono ?_
        rw [HP1.out]
        rintro e w1 ⟨A1, nx, c1, rfl, g1, g2, g3, g4, hB⟩
        have HN := Lib.hid g1
        have HR := Lib.hid g4
        clear g1 g4
        have HW := Lib.hid (HW.out.trans (hB.mono HW.out.size))
        clear hB
        go_wp2_with fail
        refine (Clique_calls n 0 a A1 nx c1 xs _ HN.out HR.out g2 g3).mono ?_
        rw [HP2.out]
        rintro e w2 ⟨v, rfl, ho, hB⟩
        obtain rfl : v = .slice none 0 0 := ho
        have HR := Lib.hid (HR.out.below hB)
        have HW := Lib.hid (HW.out.trans (hB.mono HW.out.size))
        clear hB
        go_wp2_with fail
        refine (Clique_calls n 1 b A1 nx c1 xs _ HN.out HR.out g2 g3).mono ?_
        rw [HP3.out]
        rintro e w2 ⟨v, rfl, ho, hB⟩
        obtain rfl : v = .slice none 0 0 := ho
        have HW := Lib.hid (HW.out.trans (hB.mono HW.out.size))
        clear hB
        go_wp2_with fail
        have d3 := (HW.out.cell (p := ⟨w.heap.size + 1, 0, none⟩) HS.out).trans F3.out
        have d4 := (HW.out.cell (p := ⟨w.heap.size + 1, 1, none⟩) HS.out).trans F4.out
        go_region_held3 (fun w' => w'.cell? ⟨w.heap.size + 1, 0, none⟩ = some (.int .u8 y0) ∧ w'.cell? ⟨w.heap.size + 1, 1, none⟩ = some (.int .u8 y1) ∧ Below W.heap.size W w')
          ((refine keepYY F3.out F4.out ?_; first | exact HW.out.drew | exact HW.out.drew.trans (Below.mono (by assumption) HW.out.drew.size)))
          ((first | (go_at_call 33; (with_reducible refine (CB4.out _).mono ?_); rintro e u' ⟨rfl, rfl⟩) | (go_at_call 33; (with_reducible refine (CB5.out _).mono ?_); rintro e u' ⟨rfl, rfl⟩) | (go_at_call 27; (with_reducible refine (C2.out _).mono ?_); rw [HP4.out]; rintro e w5 ⟨rfl, hB5⟩)))
        have HW := Lib.hid (HW.out.drew.trans (hB5.mono HW.out.drew.size))
        clear d3 d4 hB5
        go_wp2_with fail
        refine (CB6.out _).mono ?_
        rintro e u6 ⟨rfl, rfl⟩
        go_wp2_with fail
        have d3 := (HW.out.cell (p := ⟨w.heap.size + 1, 0, none⟩) HS.out).trans F3.out
        have d4 := (HW.out.cell (p := ⟨w.heap.size + 1, 1, none⟩) HS.out).trans F4.out
        go_region_held3 (fun w' => w'.cell? ⟨w.heap.size + 1, 0, none⟩ = some (.int .u8 y0) ∧ w'.cell? ⟨w.heap.size + 1, 1, none⟩ = some (.int .u8 y1) ∧ Below W.heap.size W w')
          ((refine keepYY F3.out F4.out ?_; first | exact HW.out.drew | exact HW.out.drew.trans (Below.mono (by assumption) HW.out.drew.size)))
          ((first | (go_at_call 33; (with_reducible refine (CB7.out _).mono ?_); rintro e u' ⟨rfl, rfl⟩) | (go_at_call 33; (with_reducible refine (CB8.out _).mono ?_); rintro e u' ⟨rfl, rfl⟩) | (go_at_call 31; (with_reducible refine (C3.out _).mono ?_); rw [HP6.out]; rintro e w7 ⟨A7, n7, c7, rfl, g71, g72, g73, g74, hB7⟩; have HN7 := Lib.hid g71; have HR7 := Lib.hid g74; clear g71 g74)))
        have HW := Lib.hid (HW.out.drew.trans (hB7.mono HW.out.drew.size))
        clear d3 d4 hB7
        go_wp2_with fail
        refine (Progression_calls A7 n7 c7 zs t _ HN7.out HR7.out g72 g73).mono ?_
        rw [HP7.out]
        rintro e w8 ⟨v, rfl, ho, hB⟩
        obtain rfl : v = .slice none 0 0 := ho
        have HW := Lib.hid (HW.out.trans (hB.mono HW.out.size))
        clear hB
        go_wp2_with fail
        refine (lives_calls _).mono ?_
        rintro e x9 ⟨rfl, hB⟩
        have HX9 := Lib.hid (HBb.out.trans ((HW.out.trans (hB.mono HW.out.size)).mono HBb.out.size))
        clear hB
        go_wp2_with fail
        go_ret
        exact ⟨rfl, HX9.out⟩
      · obtain ⟨xs, p1, p2, p3⟩ := WA
        have HP1 := Lib.hid p1
        have HP2 := Lib.hid p2
        have HP3 := Lib.hid p3
        clear p1 p2 p3
        have HP4 := Lib.hid WB
        clear WB
        have HP6 := Lib.hid WC
        clear WC
        go_enter Try.func8, Try.ntmps8
        go_wp2_with fail
        rw [← HWB.out]
        go_quiet ((go_at_call 33; first | (with_reducible exact Q1.out _) | (with_reducible exact Q2.out _) | (with_reducible exact Q3.out _)))
        obtain ⟨W, hW⟩ : ∃ W, W = wb.drewN nq := ⟨_, rfl⟩
        have HBb : Hid (Below w.heap.size w W) := by rw [hW]; exact below_drewN HBa.out nq
        have F3 : Hid (W.cell? ⟨w.heap.size + 1, 0, none⟩ = some (.int .u8 y0)) := by rw [hW]; exact E3.out
        have F4 : Hid (W.cell? ⟨w.heap.size + 1, 1, none⟩ = some (.int .u8 y1)) := by rw [hW]; exact E4.out
        have HS : Hid (w.heap.size + 1 < W.heap.size) := by rw [hW]; show w.heap.size + 1 < wb.heap.size; rw [HSB.out]; omega
        rw [← hW]
        clear d0 d1 d2 hW
        have HW := Lib.hid (Below.refl W.heap.size W)
        go_wp2_with fail
        refine (C1.out _).mono ?_
        rw [HP1.out]
        rintro e w1 ⟨A1, nx, c1, rfl, g1, g2, g3, g4, hB⟩
        have HN := Lib.hid g1
        have HR := Lib.hid g4
        clear g1 g4
        have HW := Lib.hid (HW.out.trans (hB.mono HW.out.size))
        clear hB
        go_wp2_with fail
        refine (Clique_calls n 0 a A1 nx c1 xs _ HN.out HR.out g2 g3).mono ?_
        rw [HP2.out]
        rintro e w2 ⟨v, rfl, ho, hB⟩
        obtain rfl : v = .slice none 0 0 := ho
        have HR := Lib.hid (HR.out.below hB)
        have HW := Lib.hid (HW.out.trans (hB.mono HW.out.size))
        clear hB
        go_wp2_with fail
        refine (Clique_calls n 1 b A1 nx c1 xs _ HN.out HR.out g2 g3).mono ?_
        rw [HP3.out]
        rintro e w2 ⟨v, rfl, ho, hB⟩
        obtain rfl : v = .slice none 0 0 := ho
        have HW := Lib.hid (HW.out.trans (hB.mono HW.out.size))
        clear hB
        go_wp2_with fail
        have d3 := (HW.out.cell (p := ⟨w.heap.size + 1, 0, none⟩) HS.out).trans F3.out
        have d4 := (HW.out.cell (p := ⟨w.heap.size + 1, 1, none⟩) HS.out).trans F4.out
        go_region_held3 (fun w' => w'.cell? ⟨w.heap.size + 1, 0, none⟩ = some (.int .u8 y0) ∧ w'.cell? ⟨w.heap.size + 1, 1, none⟩ = some (.int .u8 y1) ∧ Below W.heap.size W w')
          ((refine keepYY F3.out F4.out ?_; first | exact HW.out.drew | exact HW.out.drew.trans (Below.mono (by assumption) HW.out.drew.size)))
          ((first | (go_at_call 33; (with_reducible refine (CB4.out _).mono ?_); rintro e u' ⟨rfl, rfl⟩) | (go_at_call 33; (with_reducible refine (CB5.out _).mono ?_); rintro e u' ⟨rfl, rfl⟩) | (go_at_call 27; (with_reducible refine (C2.out _).mono ?_); rw [HP4.out]; rintro e w5 ⟨rfl, hB5⟩)))
        have HW := Lib.hid (HW.out.drew.trans (hB5.mono HW.out.drew.size))
        clear d3 d4 hB5
        go_wp2_with fail
        refine (CB6.out _).mono ?_
        rintro e u6 ⟨rfl, rfl⟩
        go_wp2_with fail
        have d3 := (HW.out.cell (p := ⟨w.heap.size + 1, 0, none⟩) HS.out).trans F3.out
        have d4 := (HW.out.cell (p := ⟨w.heap.size + 1, 1, none⟩) HS.out).trans F4.out
        go_region_held3 (fun w' => w'.cell? ⟨w.heap.size + 1, 0, none⟩ = some (.int .u8 y0) ∧ w'.cell? ⟨w.heap.size + 1, 1, none⟩ = some (.int .u8 y1) ∧ Below W.heap.size W w')
          ((refine keepYY F3.out F4.out ?_; first | exact HW.out.drew | exact HW.out.drew.trans (Below.mono (by assumption) HW.out.drew.size)))
          ((first | (go_at_call 33; (with_reducible refine (CB7.out _).mono ?_); rintro e u' ⟨rfl, rfl⟩) | (go_at_call 33; (with_reducible refine (CB8.out _).mono ?_); rintro e u' ⟨rfl, rfl⟩) | (go_at_call 31; (with_reducible refine (C3.out _).mono ?_); rw [HP6.out]; rintro e w7 ⟨rfl, hB7⟩)))
        have HW := Lib.hid (HW.out.drew.trans (hB7.mono HW.out.drew.size))
        clear d3 d4 hB7
        go_wp2_with fail
        refine (lives_calls _).mono ?_
        rintro e x9 ⟨rfl, hB⟩
        have HX9 := Lib.hid (HBb.out.trans ((HW.out.trans (hB.mono HW.out.size)).mono HBb.out.size))
        clear hB
        go_wp2_with fail
        go_ret
        exact ⟨rfl, HX9.out⟩
  · rcases WB with WB | WB
    · rcases WC with WC | WC
      · have HP1 := Lib.hid WA
        clear WA
        obtain ⟨ys, p1, p2⟩ := WB
        have HP4 := Lib.hid p1
        have HP5 := Lib.hid p2
        clear p1 p2
        obtain ⟨zs, p1, p2⟩ := WC
        have HP6 := Lib.hid p1
        have HP7 := Lib.hid p2
        clear p1 p2
        go_enter Try.func8, Try.ntmps8
        go_wp2_with fail
        rw [← HWB.out]
        go_quiet ((go_at_call 33; first | (with_reducible exact Q1.out _) | (with_reducible exact Q2.out _) | (with_reducible exact Q3.out _)))
        obtain ⟨W, hW⟩ : ∃ W, W = wb.drewN nq := ⟨_, rfl⟩
        have HBb : Hid (Below w.heap.size w W) := by rw [hW]; exact below_drewN HBa.out nq
        have F3 : Hid (W.cell? ⟨w.heap.size + 1, 0, none⟩ = some (.int .u8 y0)) := by rw [hW]; exact E3.out
        have F4 : Hid (W.cell? ⟨w.heap.size + 1, 1, none⟩ = some (.int .u8 y1)) := by rw [hW]; exact E4.out
        have HS : Hid (w.heap.size + 1 < W.heap.size) := by rw [hW]; show w.heap.size + 1 < wb.heap.size; rw [HSB.out]; omega
        rw [← hW]
        clear d0 d1 d2 hW
        have HW := Lib.hid (Below.refl W.heap.size W)
        go_wp2_with fail
        refine (C1.out _).mono ?_
        rw [HP1.out]
        rintro e w1 ⟨rfl, hB⟩
        have HW := Lib.hid (HW.out.trans (hB.mono HW.out.size))
        clear hB
        go_wp2_with fail
        have d3 := (HW.out.cell (p := ⟨w.heap.size + 1, 0, none⟩) HS.out).trans F3.out
        have d4 := (HW.out.cell (p := ⟨w.heap.size + 1, 1, none⟩) HS.out).trans F4.out
        go_region_held3 (fun w' => w'.cell? ⟨w.heap.size + 1, 0, none⟩ = some (.int .u8 y0) ∧ w'.cell? ⟨w.heap.size + 1, 1, none⟩ = some (.int .u8 y1) ∧ Below W.heap.size W w')
          ((refine keepYY F3.out F4.out ?_; first | exact HW.out.drew | exact HW.out.drew.trans (Below.mono (by assumption) HW.out.drew.size)))
          ((first | (go_at_call 33; (with_reducible refine (CB4.out _).mono ?_); rintro e u' ⟨rfl, rfl⟩) | (go_at_call 33; (with_reducible refine (CB5.out _).mono ?_); rintro e u' ⟨rfl, rfl⟩) | (go_at_call 27; (with_reducible refine (C2.out _).mono ?_); rw [HP4.out]; rintro e w5 ⟨A5, n5, c5, rfl, g51, g52, g53, g54, hB5⟩; have HN5 := Lib.hid g51; have HR5 := Lib.hid g54; clear g51 g54)))
        have HW := Lib.hid (HW.out.drew.trans (hB5.mono HW.out.drew.size))
        clear d3 d4 hB5
        go_wp2_with fail
        refine (Sum_calls A5 n5 c5 ys _ HN5.out HR5.out g52 g53).mono ?_
        rw [HP5.out]
        rintro e w6 ⟨v, rfl, ho, hB⟩
        obtain rfl : v = .slice none 0 0 := ho
        have HW := Lib.hid (HW.out.trans (hB.mono HW.out.size))
        clear hB
        go_wp2_with fail
        refine (CB6.out _).mono ?_
        rintro e u6 ⟨rfl, rfl⟩
        go_wp2_with fail
        have d3 := (HW.out.cell (p := ⟨w.heap.size + 1, 0, none⟩) HS.out).trans F3.out
        have d4 := (HW.out.cell (p := ⟨w.heap.size + 1, 1, none⟩) HS.out).trans F4.out
        go_region_held3 (fun w' => w'.cell? ⟨w.heap.size + 1, 0, none⟩ = some (.int .u8 y0) ∧ w'.cell? ⟨w.heap.size + 1, 1, none⟩ = some (.int .u8 y1) ∧ Below W.heap.size W w')
          ((refine keepYY F3.out F4.out ?_; first | exact HW.out.drew | exact HW.out.drew.trans (Below.mono (by assumption) HW.out.drew.size)))
          ((first | (go_at_call 33; (with_reducible refine (CB7.out _).mono ?_); rintro e u' ⟨rfl, rfl⟩) | (go_at_call 33; (with_reducible refine (CB8.out _).mono ?_); rintro e u' ⟨rfl, rfl⟩) | (go_at_call 31; (with_reducible refine (C3.out _).mono ?_); rw [HP6.out]; rintro e w7 ⟨A7, n7, c7, rfl, g71, g72, g73, g74, hB7⟩; have HN7 := Lib.hid g71; have HR7 := Lib.hid g74; clear g71 g74)))
        have HW := Lib.hid (HW.out.drew.trans (hB7.mono HW.out.drew.size))
        clear d3 d4 hB7
        go_wp2_with fail
        refine (Progression_calls A7 n7 c7 zs t _ HN7.out HR7.out g72 g73).mono ?_
        rw [HP7.out]
        rintro e w8 ⟨v, rfl, ho, hB⟩
        obtain rfl : v = .slice none 0 0 := ho
        have HW := Lib.hid (HW.out.trans (hB.mono HW.out.size))
        clear hB
        go_wp2_with fail
        refine (lives_calls _).mono ?_
        rintro e x9 ⟨rfl, hB⟩
        have HX9 := Lib.hid (HBb.out.trans ((HW.out.trans (hB.mono HW.out.size)).mono HBb.out.size))
        clear hB
        go_wp2_with fail
        go_ret
        exact ⟨rfl, HX9.out⟩
      · have HP1 := Lib.hid WA
        clear WA
        obtain ⟨ys, p1, p2⟩ := WB
        have HP4 := Lib.hid p1
        have HP5 := Lib.hid p2
        clear p1 p2
        have HP6 := Lib.hid WC
        clear WC
        go_enter Try.func8, Try.ntmps8
        go_wp2_with fail
        rw [← HWB.out]
        go_quiet ((go_at_call 33; first | (with_reducible exact Q1.out _) | (with_reducible exact Q2.out _) | (with_reducible exact Q3.out _)))
        obtain ⟨W, hW⟩ : ∃ W, W = wb.drewN nq := ⟨_, rfl⟩
        have HBb : Hid (Below w.heap.size w W) := by rw [hW]; exact below_drewN HBa.out nq
        have F3 : Hid (W.cell? ⟨w.heap.size + 1, 0, none⟩ = some (.int .u8 y0)) := by rw [hW]; exact E3.out
        have F4 : Hid (W.cell? ⟨w.heap.size + 1, 1, none⟩ = some (.int .u8 y1)) := by rw [hW]; exact E4.out
        have HS : Hid (w.heap.size + 1 < W.heap.size) := by rw [hW]; show w.heap.size + 1 < wb.heap.size; rw [HSB.out]; omega
        rw [← hW]
        clear d0 d1 d2 hW
        have HW := Lib.hid (Below.refl W.heap.size W)
        go_wp2_with fail
        refine (C1.out _).mono ?_
        rw [HP1.out]
        rintro e w1 ⟨rfl, hB⟩
        have HW := Lib.hid (HW.out.trans (hB.mono HW.out.size))
        clear hB
        go_wp2_with fail
        have d3 := (HW.out.cell (p := ⟨w.heap.size + 1, 0, none⟩) HS.out).trans F3.out
        have d4 := (HW.out.cell (p := ⟨w.heap.size + 1, 1, none⟩) HS.out).trans F4.out
        go_region_held3 (fun w' => w'.cell? ⟨w.heap.size + 1, 0, none⟩ = some (.int .u8 y0) ∧ w'.cell? ⟨w.heap.size + 1, 1, none⟩ = some (.int .u8 y1) ∧ Below W.heap.size W w')
          ((refine keepYY F3.out F4.out ?_; first | exact HW.out.drew | exact HW.out.drew.trans (Below.mono (by assumption) HW.out.drew.size)))
          ((first | (go_at_call 33; (with_reducible refine (CB4.out _).mono ?_); rintro e u' ⟨rfl, rfl⟩) | (go_at_call 33; (with_reducible refine (CB5.out _).mono ?_); rintro e u' ⟨rfl, rfl⟩) | (go_at_call 27; (with_reducible refine (C2.out _).mono ?_); rw [HP4.out]; rintro e w5 ⟨A5, n5, c5, rfl, g51, g52, g53, g54, hB5⟩; have HN5 := Lib.hid g51; have HR5 := Lib.hid g54; clear g51 g54)))
        have HW := Lib.hid (HW.out.drew.trans (hB5.mono HW.out.drew.size))
        clear d3 d4 hB5
        go_wp2_with fail
        refine (Sum_calls A5 n5 c5 ys _ HN5.out HR5.out g52 g53).mono ?_
        rw [HP5.out]
        rintro e w6 ⟨v, rfl, ho, hB⟩
        obtain rfl : v = .slice none 0 0 := ho
        have HW := Lib.hid (HW.out.trans (hB.mono HW.out.size))
        clear hB
        go_wp2_with fail
        refine (CB6.out _).mono ?_
        rintro e u6 ⟨rfl, rfl⟩
        go_wp2_with fail
        have d3 := (HW.out.cell (p := ⟨w.heap.size + 1, 0, none⟩) HS.out).trans F3.out
        have d4 := (HW.out.cell (p := ⟨w.heap.size + 1, 1, none⟩) HS.out).trans F4.out
        go_region_held3 (fun w' => w'.cell? ⟨w.heap.size + 1, 0, none⟩ = some (.int .u8 y0) ∧ w'.cell? ⟨w.heap.size + 1, 1, none⟩ = some (.int .u8 y1) ∧ Below W.heap.size W w')
          ((refine keepYY F3.out F4.out ?_; first | exact HW.out.drew | exact HW.out.drew.trans (Below.mono (by assumption) HW.out.drew.size)))
          ((first | (go_at_call 33; (with_reducible refine (CB7.out _).mono ?_); rintro e u' ⟨rfl, rfl⟩) | (go_at_call 33; (with_reducible refine (CB8.out _).mono ?_); rintro e u' ⟨rfl, rfl⟩) | (go_at_call 31; (with_reducible refine (C3.out _).mono ?_); rw [HP6.out]; rintro e w7 ⟨rfl, hB7⟩)))
        have HW := Lib.hid (HW.out.drew.trans (hB7.mono HW.out.drew.size))
        clear d3 d4 hB7
        go_wp2_with fail
        refine (lives_calls _).mono ?_
        rintro e x9 ⟨rfl, hB⟩
        have HX9 := Lib.hid (HBb.out.trans ((HW.out.trans (hB.mono HW.out.size)).mono HBb.out.size))
        clear hB
        go_wp2_with fail
        go_ret
        exact ⟨rfl, HX9.out⟩
    · rcases WC with WC | WC
      · have HP1 := Lib.hid WA
        clear WA
        have HP4 := Lib.hid WB
        clear WB
        obtain ⟨zs, p1, p2⟩ := WC
        have HP6 := Lib.hid p1
        have HP7 := Lib.hid p2
        clear p1 p2
        go_enter Try.func8, Try.ntmps8
        go_wp2_with fail
        rw [← HWB.out]
        go_quiet ((go_at_call 33; first | (with_reducible exact Q1.out _) | (with_reducible exact Q2.out _) | (with_reducible exact Q3.out _)))
        obtain ⟨W, hW⟩ : ∃ W, W = wb.drewN nq := ⟨_, rfl⟩
        have HBb : Hid (Below w.heap.size w W) := by rw [hW]; exact below_drewN HBa.out nq
        have F3 : Hid (W.cell? ⟨w.heap.size + 1, 0, none⟩ = some (.int .u8 y0)) := by rw [hW]; exact E3.out
        have F4 : Hid (W.cell? ⟨w.heap.size + 1, 1, none⟩ = some (.int .u8 y1)) := by rw [hW]; exact E4.out
        have HS : Hid (w.heap.size + 1 < W.heap.size) := by rw [hW]; show w.heap.size + 1 < wb.heap.size; rw [HSB.out]; omega
        rw [← hW]
        clear d0 d1 d2 hW
        have HW := Lib.hid (Below.refl W.heap.size W)
        go_wp2_with fail
        refine (C1.out _).mono ?_
        rw [HP1.out]
        rintro e w1 ⟨rfl, hB⟩
        have HW := Lib.hid (HW.out.trans (hB.mono HW.out.size))
        clear hB
        go_wp2_with fail
        have d3 := (HW.out.cell (p := ⟨w.heap.size + 1, 0, none⟩) HS.out).trans F3.out
        have d4 := (HW.out.cell (p := ⟨w.heap.size + 1, 1, none⟩) HS.out).trans F4.out
        go_region_held3 (fun w' => w'.cell? ⟨w.heap.size + 1, 0, none⟩ = some (.int .u8 y0) ∧ w'.cell? ⟨w.heap.size + 1, 1, none⟩ = some (.int .u8 y1) ∧ Below W.heap.size W w')
          ((refine keepYY F3.out F4.out ?_; first | exact HW.out.drew | exact HW.out.drew.trans (Below.mono (by assumption) HW.out.drew.size)))
          ((first | (go_at_call 33; (with_reducible refine (CB4.out _).mono ?_); rintro e u' ⟨rfl, rfl⟩) | (go_at_call 33; (with_reducible refine (CB5.out _).mono ?_); rintro e u' ⟨rfl, rfl⟩) | (go_at_call 27; (with_reducible refine (C2.out _).mono ?_); rw [HP4.out]; rintro e w5 ⟨rfl, hB5⟩)))
        have HW := Lib.hid (HW.out.drew.trans (hB5.mono HW.out.drew.size))
        clear d3 d4 hB5
        go_wp2_with fail
        refine (CB6.out _).mono ?_
        rintro e u6 ⟨rfl, rfl⟩
        go_wp2_with fail
        have d3 := (HW.out.cell (p := ⟨w.heap.size + 1, 0, none⟩) HS.out).trans F3.out
        have d4 := (HW.out.cell (p := ⟨w.heap.size + 1, 1, none⟩) HS.out).trans F4.out
        go_region_held3 (fun w' => w'.cell? ⟨w.heap.size + 1, 0, none⟩ = some (.int .u8 y0) ∧ w'.cell? ⟨w.heap.size + 1, 1, none⟩ = some (.int .u8 y1) ∧ Below W.heap.size W w')
          ((refine keepYY F3.out F4.out ?_; first | exact HW.out.drew | exact HW.out.drew.trans (Below.mono (by assumption) HW.out.drew.size)))
          ((first | (go_at_call 33; (with_reducible refine (CB7.out _).mono ?_); rintro e u' ⟨rfl, rfl⟩) | (go_at_call 33; (with_reducible refine (CB8.out _).mono ?_); rintro e u' ⟨rfl, rfl⟩) | (go_at_call 31; (with_reducible refine (C3.out _).mono ?_); rw [HP6.out]; rintro e w7 ⟨A7, n7, c7, rfl, g71, g72, g73, g74, hB7⟩; have HN7 := Lib.hid g71; have HR7 := Lib.hid g74; clear g71 g74)))
        have HW := Lib.hid (HW.out.drew.trans (hB7.mono HW.out.drew.size))
        clear d3 d4 hB7
        go_wp2_with fail
        refine (Progression_calls A7 n7 c7 zs t _ HN7.out HR7.out g72 g73).mono ?_
        rw [HP7.out]
        rintro e w8 ⟨v, rfl, ho, hB⟩
        obtain rfl : v = .slice none 0 0 := ho
        have HW := Lib.hid (HW.out.trans (hB.mono HW.out.size))
        clear hB
        go_wp2_with fail
        refine (lives_calls _).mono ?_
        rintro e x9 ⟨rfl, hB⟩
        have HX9 := Lib.hid (HBb.out.trans ((HW.out.trans (hB.mono HW.out.size)).mono HBb.out.size))
        clear hB
        go_wp2_with fail
        go_ret
        exact ⟨rfl, HX9.out⟩
      · have HP1 := Lib.hid WA
        clear WA
        have HP4 := Lib.hid WB
        clear WB
        have HP6 := Lib.hid WC
        clear WC
        go_enter Try.func8, Try.ntmps8
        go_wp2_with fail
        rw [← HWB.out]
        go_quiet ((go_at_call 33; first | (with_reducible exact Q1.out _) | (with_reducible exact Q2.out _) | (with_reducible exact Q3.out _)))
        obtain ⟨W, hW⟩ : ∃ W, W = wb.drewN nq := ⟨_, rfl⟩
        have HBb : Hid (Below w.heap.size w W) := by rw [hW]; exact below_drewN HBa.out nq
        have F3 : Hid (W.cell? ⟨w.heap.size + 1, 0, none⟩ = some (.int .u8 y0)) := by rw [hW]; exact E3.out
        have F4 : Hid (W.cell? ⟨w.heap.size + 1, 1, none⟩ = some (.int .u8 y1)) := by rw [hW]; exact E4.out
        have HS : Hid (w.heap.size + 1 < W.heap.size) := by rw [hW]; show w.heap.size + 1 < wb.heap.size; rw [HSB.out]; omega
        rw [← hW]
        clear d0 d1 d2 hW
        have HW := Lib.hid (Below.refl W.heap.size W)
        go_wp2_with fail
        refine (C1.out _).mono ?_
        rw [HP1.out]
        rintro e w1 ⟨rfl, hB⟩
        have HW := Lib.hid (HW.out.trans (hB.mono HW.out.size))
        clear hB
        go_wp2_with fail
        have d3 := (HW.out.cell (p := ⟨w.heap.size + 1, 0, none⟩) HS.out).trans F3.out
        have d4 := (HW.out.cell (p := ⟨w.heap.size + 1, 1, none⟩) HS.out).trans F4.out
        go_region_held3 (fun w' => w'.cell? ⟨w.heap.size + 1, 0, none⟩ = some (.int .u8 y0) ∧ w'.cell? ⟨w.heap.size + 1, 1, none⟩ = some (.int .u8 y1) ∧ Below W.heap.size W w')
          ((refine keepYY F3.out F4.out ?_; first | exact HW.out.drew | exact HW.out.drew.trans (Below.mono (by assumption) HW.out.drew.size)))
          ((first | (go_at_call 33; (with_reducible refine (CB4.out _).mono ?_); rintro e u' ⟨rfl, rfl⟩) | (go_at_call 33; (with_reducible refine (CB5.out _).mono ?_); rintro e u' ⟨rfl, rfl⟩) | (go_at_call 27; (with_reducible refine (C2.out _).mono ?_); rw [HP4.out]; rintro e w5 ⟨rfl, hB5⟩)))
        have HW := Lib.hid (HW.out.drew.trans (hB5.mono HW.out.drew.size))
        clear d3 d4 hB5
        go_wp2_with fail
        refine (CB6.out _).mono ?_
        rintro e u6 ⟨rfl, rfl⟩
        go_wp2_with fail
        have d3 := (HW.out.cell (p := ⟨w.heap.size + 1, 0, none⟩) HS.out).trans F3.out
        have d4 := (HW.out.cell (p := ⟨w.heap.size + 1, 1, none⟩) HS.out).trans F4.out
        go_region_held3 (fun w' => w'.cell? ⟨w.heap.size + 1, 0, none⟩ = some (.int .u8 y0) ∧ w'.cell? ⟨w.heap.size + 1, 1, none⟩ = some (.int .u8 y1) ∧ Below W.heap.size W w')
          ((refine keepYY F3.out F4.out ?_; first | exact HW.out.drew | exact HW.out.drew.trans (Below.mono (by assumption) HW.out.drew.size)))
          ((first | (go_at_call 33; (with_reducible refine (CB7.out _).mono ?_); rintro e u' ⟨rfl, rfl⟩) | (go_at_call 33; (with_reducible refine (CB8.out _).mono ?_); rintro e u' ⟨rfl, rfl⟩) | (go_at_call 31; (with_reducible refine (C3.out _).mono ?_); rw [HP6.out]; rintro e w7 ⟨rfl, hB7⟩)))
        have HW := Lib.hid (HW.out.drew.trans (hB7.mono HW.out.drew.size))
        clear d3 d4 hB7
        go_wp2_with fail
        refine (lives_calls _).mono ?_
        rintro e x9 ⟨rfl, hB⟩
        have HX9 := Lib.hid (HBb.out.trans ((HW.out.trans (hB.mono HW.out.size)).mono HBb.out.size))
        clear hB
        go_wp2_with fail
        go_ret
        exact ⟨rfl, HX9.out⟩
end Go.Proofs.Ytplafgmceggcnaa
