/- What is proved: least, and the laws between (G4) and of Chvatal (G3). No condition beyond those in each statement. -/
import Derived.Test.YtlidnhmagleehaaS
import Derived.Deep.RegionHeld3
namespace Go.Proofs.Ytlidnhmagleehaa
open Go.RowKit

theorem least_ex (cost : List Int → Int) (q : Nat) : ∃ b p, leastF cost q = some (b, p) := by
  obtain ⟨b, p, h, _⟩ := least_spec cost q
  exact ⟨b, p, h⟩
set_option maxHeartbeats 4000000 in
theorem least_calls (q : Nat) (hq : 1 ≤ q ∧ q ≤ 8) (B : Option Addr) (ne ce : Nat) (es : List (Int × Int)) (w : World) (hne : ne = es.length) (h30 : es.length ≤ 30) (hg : IsG q es) (hB : RdE w B es) (hle : ne ≤ ce) (hce : ce ≤ 9223372036854775807)
    {b1 b2 b3 : Int} {p1 p2 p3 : List Int} (l1 : leastF (costB es) q = some (b1, p1)) (l2 : leastF (costC es) q = some (b2, p2)) (l3 : leastF (costS es) q = some (b3, p3)) :
    Calls Try.prog 29 #[.int .i64 q, .slice B ne ce] w fun e w' => ∃ g, e = .returned (.tuple #[.slice (some ⟨g, 0, none⟩) 3 3, .bool true]) ∧ Rd w' (some ⟨g, 0, none⟩) [b1, b2, b3] ∧ Below w.heap.size w w' := by
  have HCK := Lib.hid (check_ok hq h30 hg)
  have C1 := Lib.hid ((Band_calls q B ne ce es w hne hB hle hce).mono fun e w' h => h.ok HCK.out l1)
  have C2 := Lib.hid (fun (W : World) (h : RdE W B es) => (Cut_calls q B ne ce es W hne h hle hce).mono fun e w' h => h.ok HCK.out l2)
  have C3 := Lib.hid (fun (W : World) (h : RdE W B es) => (Arrange_calls q B ne ce es W hne h hle hce).mono fun e w' h => h.ok HCK.out l3)
  have HB := Lib.hid hB
  clear hne hB l1 l2 l3
  go_enter Try.func29, Try.ntmps29
  go_wp2_with fail
  refine C1.out.mono ?_
  rintro e w1 ⟨g1, c1, rfl, hA1, hB1⟩
  have HE := Lib.hid (HB.out.below hB1)
  have HW := Lib.hid hB1
  clear hA1 hB1
  go_wp2_with fail
  refine (C2.out _ HE.out).mono ?_
  rintro e w2 ⟨g2, c2, rfl, hA2, hB2⟩
  have HE := Lib.hid (HE.out.below hB2)
  have HW := Lib.hid (HW.out.trans (hB2.mono HW.out.size))
  clear hA2 hB2
  go_wp2_with fail
  refine (C3.out _ HE.out).mono ?_
  rintro e w3 ⟨g3, c3, rfl, hA3, hB3⟩
  have HW := Lib.hid (HW.out.trans (hB3.mono HW.out.size))
  clear hA3 hB3
  go_wp2_with fail
  go_ret2
  exact ⟨w3.heap.size, rfl, rd_lit w3 [b1, b2, b3] _ rfl, HW.out.alloc HW.out.size _⟩

set_option maxHeartbeats 4000000 in
theorem betweenlaw_calls (x : Int) (A : Option Addr) (m c : Nat) (ps : List (Int × Int)) (w : World) (hx : 0 ≤ x ∧ x ≤ 255) (hm : m = ps.length) (hA : RdP w A ps) (hl : m ≤ c) (hc : c ≤ 9223372036854775807) (hps : ∀ p ∈ ps, (0 ≤ p.1 ∧ p.1 ≤ 255) ∧ (0 ≤ p.2 ∧ p.2 ≤ 255)) :
    Calls Try.prog 6 #[.int .u8 x, .slice A m c] w fun e w' => e = .returned (.bool true) ∧ Below w.heap.size w w' := by
  have CM := Lib.hid (made_calls x A m c ps 8 w hx (by omega) hm hA hl hc hps)
  clear hm hA hps
  go_enter Try.func6, Try.ntmps6
  go_wp2_with fail
  refine CM.out.mono ?_
  rintro e w1 ⟨k, es, g, cg, hk, h20, hg, rfl, ho, hB⟩
  have HO := Lib.hid ho
  have HG := Lib.hid hg
  have HW := Lib.hid hB
  have hbd := ho.bd
  obtain ⟨b1, p1, l1⟩ := least_ex (costB es) k
  obtain ⟨b2, p2, l2⟩ := least_ex (costC es) k
  obtain ⟨b3, p3, l3⟩ := least_ex (costS es) k
  obtain ⟨f1, f2, f3, f4⟩ := between_law hk.1 hg l1 l2 l3
  have CL := Lib.hid (least_calls k hk (some ⟨g, 0, none⟩) es.length cg es w1 rfl (by omega) hg ho.rd hbd.1 hbd.2 l1 l2 l3)
  obtain ⟨L, hL⟩ : ∃ L, L = es.length := ⟨_, rfl⟩
  rw [← hL] at CL f2 f4 hbd h20 ⊢
  obtain ⟨P, hP⟩ : ∃ P, ((k : Int) - 1) * b2 = P := ⟨_, rfl⟩
  have hPb : 0 ≤ P ∧ P ≤ 1000 := by
    rw [← hP]
    exact ⟨Int.mul_nonneg (by omega) (by omega), Int.le_trans (Int.mul_le_mul (by omega : (k : Int) - 1 ≤ 7) (by omega : b2 ≤ 30) (by omega) (by omega)) (by omega)⟩
  rw [hP] at f3
  have HPE := Lib.hid hP
  clear ho hg hB l1 l2 l3 hL hP
  go_wp2_with fail
  refine CL.out.mono ?_
  rintro e w2 ⟨g2, rfl, hrd, hB2⟩
  have HW := Lib.hid (HW.out.trans (hB2.mono HW.out.size))
  have e0 := hrd.at2 0 (by simp)
  have e1 := hrd.at2 1 (by simp)
  have e2 := hrd.at2 2 (by simp)
  simp only [Nat.zero_add, List.getElem_cons_zero, List.getElem_cons_succ] at e0 e1 e2
  have wk : IntKind.i64.wrap ((k : Int) - 1) = (k : Int) - 1 := IntWalk.i64_in _ (by omega)
  have wp : IntKind.i64.wrap (((k : Int) - 1) * b2) = P := by rw [HPE.out]; exact IntWalk.i64_in _ (by omega)
  have t1 : decide (b1 ≤ (k : Int) - 1) = true := decide_eq_true (by omega)
  have t2 : decide (b2 ≤ (L : Int)) = true := decide_eq_true (by omega)
  have t3 : decide (b3 ≤ P) = true := decide_eq_true (by omega)
  have t4 : decide ((L : Int) ≤ b3) = true := decide_eq_true (by omega)
  have CV := Lib.hid (fun (W : World) => lives_calls W)
  clear hrd hB2
  go_wp2_with fail
  go_region_held3 (fun w' => w'.cell? ⟨g2, 0, none⟩ = some (.int .i64 b1) ∧ w'.cell? ⟨g2, 1, none⟩ = some (.int .i64 b2) ∧ w'.cell? ⟨g2, 2, none⟩ = some (.int .i64 b3) ∧ Below w2.heap.size w2 w')
    ((first | exact ⟨e0, e1, e2, (Below.refl _ _).drew⟩ | exact ⟨((Below.refl w2.heap.size w2).drew.trans (by assumption)).cell (World.block_lt_of_cell? _ _ e0) |>.trans e0, ((Below.refl w2.heap.size w2).drew.trans (by assumption)).cell (World.block_lt_of_cell? _ _ e1) |>.trans e1, ((Below.refl w2.heap.size w2).drew.trans (by assumption)).cell (World.block_lt_of_cell? _ _ e2) |>.trans e2, (Below.refl w2.heap.size w2).drew.trans (by assumption)⟩))
    ((go_at_call 16; (with_reducible refine (CV.out _).mono ?_); rintro e w9 ⟨rfl, hB9⟩))
  clear wk wp t1 t2 t3 t4 e0 e1 e2
  go_wp2_with fail
  go_ret
  exact ⟨rfl, HW.out.trans (((Below.refl _ _).drew.trans hB9).mono HW.out.size)⟩

theorem bound_ways {k : Nat} (hk : 1 ≤ k ∧ k ≤ 8) {es : List (Int × Int)} (h30 : es.length ≤ 30) (hg : IsG k es) {b1 : Int} {p1 : List Int} (l1 : leastF (costB es) k = some (b1, p1)) :
    BoundR k es = (0, 5) ∨ ∃ b, BoundR k es = (b, 0) ∧ 1 ≤ b ∧ b ≤ b1 := by
  unfold BoundR
  rw [if_neg (by rw [check_ok hk h30 hg]; simp)]
  by_cases h2 : (k : Int) < 2
  · rw [if_pos h2]; exact .inl rfl
  · rw [if_neg h2, Int.toNat_natCast]
    cases hb : bndF k es with
    | none => exact .inl rfl
    | some b =>
      obtain ⟨_, _, e1, o1, c1, _⟩ := least_spec (costB es) k
      rw [l1] at e1
      cases e1
      have := chvatal (by omega) o1 hg hb
      exact .inr ⟨b, rfl, this.1, by omega⟩
set_option maxHeartbeats 4000000 in
theorem chvatallaw_calls (x : Int) (A : Option Addr) (m c : Nat) (ps : List (Int × Int)) (w : World) (hx : 0 ≤ x ∧ x ≤ 255) (hm : m = ps.length) (hA : RdP w A ps) (hl : m ≤ c) (hc : c ≤ 9223372036854775807) (hps : ∀ p ∈ ps, (0 ≤ p.1 ∧ p.1 ≤ 255) ∧ (0 ≤ p.2 ∧ p.2 ≤ 255)) :
    Calls Try.prog 5 #[.int .u8 x, .slice A m c] w fun e w' => e = .returned (.bool true) ∧ Below w.heap.size w w' := by
  have CM := Lib.hid (made_calls x A m c ps 8 w hx (by omega) hm hA hl hc hps)
  clear hm hA hps
  go_enter Try.func5, Try.ntmps5
  go_wp2_with fail
  refine CM.out.mono ?_
  rintro e w1 ⟨k, es, g, cg, hk, h20, hg, rfl, ho, hB⟩
  have HW := Lib.hid hB
  have hbd := ho.bd
  obtain ⟨b1, p1, l1⟩ := least_ex (costB es) k
  have hways := bound_ways hk (by omega) hg l1
  have CB := Lib.hid (bound_calls k (some ⟨g, 0, none⟩) es.length cg es w1 rfl ho.rd hbd.1 hbd.2)
  have HCK := Lib.hid (check_ok hk (by omega) hg)
  have CF := Lib.hid (fun (W : World) (h : RdE W (some ⟨g, 0, none⟩) es) => (Band_calls k (some ⟨g, 0, none⟩) es.length cg es W rfl h hbd.1 hbd.2).mono fun e w' h => h.ok HCK.out l1)
  have HE := Lib.hid ho.rd
  obtain ⟨L, hL⟩ : ∃ L, L = es.length := ⟨_, rfl⟩
  rw [← hL] at CB CF hbd h20 ⊢
  clear ho hg hB hL l1
  rcases hways with hb | ⟨b, hb, hb1, hb2⟩
  · have HBR := Lib.hid hb
    clear hb
    go_wp2_with fail
    refine CB.out.mono ?_
    rw [HBR.out]
    rintro e w2 ⟨rfl, hB2⟩
    have HE := Lib.hid (HE.out.below hB2)
    have HW := Lib.hid (HW.out.trans (hB2.mono HW.out.size))
    clear hB2
    go_wp2_with fail
    refine (CF.out _ HE.out).mono ?_
    rintro e w3 ⟨g3, c3, rfl, hA3, hB3⟩
    have HW := Lib.hid (HW.out.trans (hB3.mono HW.out.size))
    clear hA3 hB3
    go_wp2_with fail
    refine (lives_calls _).mono ?_
    rintro e x9 ⟨rfl, hB⟩
    have HX9 := Lib.hid (HW.out.trans (hB.mono HW.out.size))
    clear hB
    go_wp2_with fail
    go_ret
    exact ⟨rfl, HX9.out⟩
  · have HBR := Lib.hid hb
    clear hb
    have t1 : decide (b ≥ 1) = true := decide_eq_true (by omega)
    have t2 : decide (b ≤ b1) = true := decide_eq_true (by omega)
    go_wp2_with fail
    refine CB.out.mono ?_
    rw [HBR.out]
    rintro e w2 ⟨rfl, hB2⟩
    have HE := Lib.hid (HE.out.below hB2)
    have HW := Lib.hid (HW.out.trans (hB2.mono HW.out.size))
    clear hB2
    go_wp2_with fail
    refine (CF.out _ HE.out).mono ?_
    rintro e w3 ⟨g3, c3, rfl, hA3, hB3⟩
    have HW := Lib.hid (HW.out.trans (hB3.mono HW.out.size))
    clear hA3 hB3
    go_wp2_with fail
    refine (lives_calls _).mono ?_
    rintro e x9 ⟨rfl, hB⟩
    have HX9 := Lib.hid (HW.out.trans (hB.mono HW.out.size))
    clear hB
    go_wp2_with fail
    go_ret
    exact ⟨rfl, HX9.out⟩
end Go.Proofs.Ytlidnhmagleehaa
