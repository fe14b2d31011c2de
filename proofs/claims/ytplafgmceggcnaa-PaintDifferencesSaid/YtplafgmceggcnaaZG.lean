/- What is proved: the law of fewer vertices and numbers, its walk. No condition beyond those in each statement. -/
import Derived.Test.YtplafgmceggcnaaZF
namespace Go.Proofs.Ytplafgmceggcnaa
open Go.RowKit

theorem Rd.take {w : World} {A : Option Addr} {xs : List Int} (h : Rd w A xs) (k : Nat) : Rd w A (xs.take k) := fun hne => by
  obtain ⟨b, o, e, hlt, hc⟩ := h (fun e => by subst e; simp at hne)
  exact ⟨b, o, e, hlt, fun i hi => by rw [List.getElem_take]; exact hc i (by rw [List.length_take] at hi; omega)⟩
theorem fewer_way {n m a b : Nat} (hm : n = m + 1) (hn : 2 ≤ n ∧ n ≤ 8) (ha : 2 ≤ a ∧ a ≤ 4) (hb : 2 ≤ b ∧ b ≤ 4) :
    (∃ xs ys, AvoidR n a b = .ok xs ∧ xs.length = npairs n ∧ AvoidR m a b = .ok ys ∧ CliqueR m (lessOf n xs) 0 a = (none, 5) ∧ CliqueR m (lessOf n xs) 1 b = (none, 5)) ∨ AvoidR n a b = .error 5 := by
  obtain ⟨h1, h2⟩ := avoidR_ends n a b (by omega)
  have e : n - 1 = m := by omega
  cases hq : (avoidL n a b).head?.isSome
  · exact .inr (h2 hq)
  · obtain ⟨xs, g1, g2, g3⟩ := h1 hq
    have f1 := lessOf_free (by omega) g3
    rw [e] at f1
    have := free_clique (by omega) ha hb f1
    have hne := avoid_fewer (n := n) (by omega) (by omega) (by omega) (ne_of_head hq)
    rw [e] at hne
    have hq2 : (avoidL m a b).head?.isSome = true := by
      cases hz : (avoidL m a b).head?.isSome
      · exact absurd (eq_of_head hz) hne
      · rfl
    obtain ⟨ys, k1, _⟩ := (avoidR_ends m a b (by omega)).1 hq2
    exact .inl ⟨xs, ys, g1, g2, k1, this.1, this.2⟩
theorem sumless_less {n m r : Nat} (hm : n = m + 1) (hn : 2 ≤ n ∧ n ≤ 14) (hr : 1 ≤ r ∧ r ≤ 3) :
    (∃ s t, SumlessR n r = .ok s ∧ s.length = n ∧ SumlessR m r = .ok t ∧ SumR (s.take m) = (none, 5)) ∨ SumlessR n r = .error 5 := by
  rw [SumlessR_ok (by omega), SumlessR_ok (by omega)]
  cases hq : (sumlessL n r).head? with
  | none => exact .inr rfl
  | some s =>
    have hs := List.mem_of_mem_head? hq
    have hne : sumlessL m r ≠ [] := leaves_down (n := n) (by omega) (List.ne_nil_of_mem hs)
    obtain ⟨ys, e, h1, h2, h3⟩ := mem_leaves.1 hs
    have e : ys = s := by simpa using e.symm
    subst e
    have hg := h3 m (by omega) (by omega)
    rw [List.nil_append] at hg
    have hsum : sumF (ys.take m) = none := by simpa using hg
    obtain ⟨t, ht⟩ : ∃ t, (sumlessL m r).head? = some t := by
      cases hz : (sumlessL m r).head? with
      | none => exact absurd (List.head?_eq_none_iff.1 hz) hne
      | some t => exact ⟨t, rfl⟩
    refine .inl ⟨ys, t, rfl, h1, by rw [ht]; rfl, ?_⟩
    have hl : (ys.take m).length = m := by rw [List.length_take]; omega
    rw [SumR_ok (by omega) (by omega) (inRange_of fun y hy => by
      obtain ⟨c, hc, rfl⟩ := h2 y (List.mem_of_mem_take hy)
      omega), hsum]; rfl
def lessTo (n : Nat) (xs : List Int) (es : List (Nat × Nat)) : List Int := es.map fun e => colN n xs e.1 e.2
theorem lessTo_snoc (n : Nat) (xs : List Int) (es : List (Nat × Nat)) (u v : Nat) : lessTo n xs (es ++ [(u, v)]) = lessTo n xs es ++ [colN n xs u v] := by simp [lessTo]
/-- The restriction so far. -/
def LessI (w1 : World) (base : Nat) (cs : List Int) (q : Value) (wr : World) : Prop :=
  ∃ A nn cap, q = .slice A nn cap ∧ Hid (Ow wr base (.slice A nn cap) cs) ∧ Hid (nn = cs.length) ∧ Hid (Below w1.heap.size w1 wr) ∧ base ≤ w1.heap.size
theorem LessI.new (w1 : World) : LessI w1 w1.heap.size [] (.slice (some ⟨w1.heap.size, 0, none⟩) 0 0) (w1.alloc (.cells #[] 3)) :=
  ⟨_, _, _, rfl, ow_new _ _ (Nat.le_refl _), rfl, (Below.refl _ _).alloc (Nat.le_refl _) _, Nat.le_refl _⟩
theorem place_cell {w : World} {b o : Nat} {n : Nat} (hn : n ≤ 8) {xs : List Int} (hl : xs.length = npairs n) {u v : Nat} (huv : u < v) (hv : v < n) (h : Rd w (some ⟨b, o, none⟩) xs) :
    0 ≤ placeZ n u v ∧ placeZ n u v < xs.length ∧ w.cell? ⟨b, o + (placeZ n u v).toNat, none⟩ = some (.int .i64 (colN n xs u v)) := by
  obtain ⟨h1, h2, _⟩ := ends_place n hn v hv u huv
  refine ⟨h1, by omega, ?_⟩
  have := h.at2 (placeZ n u v).toNat (by omega)
  rw [this]
  unfold colN
  rw [getD_lt _ () (by omega : (placeZ n u v).toNat < xs.length)]

theorem ResP.below {w0 w' : World} {r : Except Int (List Int)} {e : Ending} (h : ResP w0 r e w') : Below w0.heap.size w0 w' := by
  cases r with
  | error q => exact h.2
  | ok xs => obtain ⟨A, n, c, _, _, _, _, _, hb⟩ := h; exact hb

set_option maxRecDepth 100000 in
set_option maxHeartbeats 16000000 in
theorem fewerlaw_calls (x0 x1 x2 y0 y1 : Int) (h0 : 0 ≤ x0 ∧ x0 ≤ 255) (h1 : 0 ≤ x1 ∧ x1 ≤ 255) (h2 : 0 ≤ x2 ∧ x2 ≤ 255) (h3 : 0 ≤ y0 ∧ y0 ≤ 255) (h4 : 0 ≤ y1 ∧ y1 ≤ 255) (w : World) :
    Calls Try.prog 10 #[.agg #[.int .u8 x0, .int .u8 x1, .int .u8 x2], .agg #[.int .u8 y0, .int .u8 y1]] w fun e w' => e = .returned (.bool true) ∧ Below w.heap.size w w' := by
  obtain ⟨n, n1, n2, cb1⟩ := between_nat x0 2 8 h0 (by omega) (by omega) (by omega)
  obtain ⟨a, a1, a2, cb2⟩ := between_nat x1 2 4 h1 (by omega) (by omega) (by omega)
  obtain ⟨b, b1, b2, cb3⟩ := between_nat x2 2 4 h2 (by omega) (by omega) (by omega)
  obtain ⟨m, m1, m2, cb4⟩ := between_nat y0 2 14 h3 (by omega) (by omega) (by omega)
  obtain ⟨r, r1, r2, cb5⟩ := between_nat y1 1 3 h4 (by omega) (by omega) (by omega)
  obtain ⟨n', hn'⟩ : ∃ q : Nat, n = q + 1 := ⟨n - 1, by omega⟩
  obtain ⟨m', hm'⟩ : ∃ q : Nat, m = q + 1 := ⟨m - 1, by omega⟩
  have WA := fewer_way (n := n) (a := a) (b := b) hn' (by omega) (by omega) (by omega)
  have WB := sumless_less (n := m) (r := r) hm' (by omega) (by omega)
  have C1 := Lib.hid (avoid_calls n a b)
  have C1' := Lib.hid (avoid_calls n' a b)
  have C2 := Lib.hid (sumless_calls m r)
  have C2' := Lib.hid (sumless_calls m' r)
  have sn : (n : Int) - 1 = n' := by omega
  have sm : (m : Int) - 1 = m' := by omega
  have ln : n' < n := by omega
  have lm : m' < m := by omega
  have HN' := Lib.hid hn'
  have HM' := Lib.hid hm'
  clear hn' hm'
  obtain ⟨wa, hwa⟩ : ∃ wa, wa = w.alloc (.cells #[.int .u8 x0, .int .u8 x1, .int .u8 x2] 42) := ⟨_, rfl⟩
  obtain ⟨wb, hwb⟩ : ∃ wb, wb = wa.alloc (.cells #[.int .u8 y0, .int .u8 y1] 43) := ⟨_, rfl⟩
  have hsa : wa.heap.size = w.heap.size + 1 := by rw [hwa]; simp
  have hsb : wb.heap.size = w.heap.size + 2 := by rw [hwb]; simp [hsa]
  have hBa : Below w.heap.size w wb := by rw [hwb, hwa]; exact ((Below.refl _ _).alloc (Nat.le_refl _) _).alloc (by simp) _
  obtain ⟨e0, e1, e2⟩ := box_arr3 w (.int .u8 x0) (.int .u8 x1) (.int .u8 x2) 42
  obtain ⟨e3, e4⟩ := box_arr2 wa (.int .u8 y0) (.int .u8 y1) 43
  rw [← hwa] at e0 e1 e2
  rw [← hwb, hsa] at e3 e4
  have hab : Below wa.heap.size wa wb := by rw [hwb]; exact (Below.refl _ _).alloc (Nat.le_refl _) _
  have d0 : wb.cell? ⟨w.heap.size, 0, none⟩ = some (.int .u8 x0) := (hab.cell (World.block_lt_of_cell? _ _ e0)).trans e0
  have d1 : wb.cell? ⟨w.heap.size, 1, none⟩ = some (.int .u8 x1) := (hab.cell (World.block_lt_of_cell? _ _ e1)).trans e1
  have d2 : wb.cell? ⟨w.heap.size, 2, none⟩ = some (.int .u8 x2) := (hab.cell (World.block_lt_of_cell? _ _ e2)).trans e2
  have HBa := Lib.hid hBa
  have HWB : Hid (wb = (w.alloc (.cells #[.int .u8 x0, .int .u8 x1, .int .u8 x2] 42)).alloc (.cells #[.int .u8 y0, .int .u8 y1] 43)) := by rw [← hwa]; exact hwb
  have Q1 := Lib.hid (fun i : Nat => Calls.quiet_of_same (w := wb) (n := i) ((cb1 _).mono fun e w' h => ⟨h.1, h.2.symm⟩))
  have Q2 := Lib.hid (fun i : Nat => Calls.quiet_of_same (w := wb) (n := i) ((cb2 _).mono fun e w' h => ⟨h.1, h.2.symm⟩))
  have Q3 := Lib.hid (fun i : Nat => Calls.quiet_of_same (w := wb) (n := i) ((cb3 _).mono fun e w' h => ⟨h.1, h.2.symm⟩))
  have Q4 := Lib.hid (fun (u : World) (i : Nat) => Calls.quiet_of_same (w := u) (n := i) ((cb4 _).mono fun e w' h => ⟨h.1, h.2.symm⟩))
  have Q5 := Lib.hid (fun (u : World) (i : Nat) => Calls.quiet_of_same (w := u) (n := i) ((cb5 _).mono fun e w' h => ⟨h.1, h.2.symm⟩))
  have E3 := Lib.hid e3
  have E4 := Lib.hid e4
  have HSB := Lib.hid hsb
  clear hBa hwa hwb hsa hsb e0 e1 e2 e3 e4 hab cb1 cb2 cb3 cb4 cb5
  rcases WA with WA | WA
  · rcases WB with WB | WB
    · obtain ⟨xs, ys, p1, p2, p3, p4, p5⟩ := WA
      have HP1 := Lib.hid p1
      have HP2 := Lib.hid p2
      have HP3 := Lib.hid p3
      have HP4 := Lib.hid p4
      have HP5 := Lib.hid p5
      clear p1 p2 p3 p4 p5
      obtain ⟨ss, ts, p1, p2, p3, p4⟩ := WB
      have HP6 := Lib.hid p1
      have HP7 := Lib.hid p2
      have HP8 := Lib.hid p3
      have HP9 := Lib.hid p4
      clear p1 p2 p3 p4
      go_enter Try.func10, Try.ntmps10
      go_wp2_with fail
      rw [← HWB.out]
      go_quiet ((go_at_call 33; first | (with_reducible exact Q1.out _) | (with_reducible exact Q2.out _) | (with_reducible exact Q3.out _)))
      obtain ⟨W, hW⟩ : ∃ W, W = wb.drewN nq := ⟨_, rfl⟩
      have HBb : Hid (Below w.heap.size w W) := by rw [hW]; exact below_drewN HBa.out nq
      have F3 : Hid (W.cell? ⟨w.heap.size + 1, 0, none⟩ = some (.int .u8 y0)) := by rw [hW]; exact E3.out
      have F4 : Hid (W.cell? ⟨w.heap.size + 1, 1, none⟩ = some (.int .u8 y1)) := by rw [hW]; exact E4.out
      have HS : Hid (w.heap.size + 1 < W.heap.size) := by rw [hW]; show w.heap.size + 1 < wb.heap.size; rw [HSB.out]; omega
      rw [← hW]
      clear d0 d1 d2 hW
      have HW := Lib.hid (Below.refl W.heap.size W)
      go_wp2_with fail
      refine (C1.out _).mono ?_
      rw [HP1.out]
      rintro e w1 ⟨A1, nx, c1, rfl, g1, g2, g3, g4, hB⟩
      have HN := Lib.hid g1
      have HR := Lib.hid g4
      clear g1 g4
      have HW := Lib.hid (HW.out.trans (hB.mono HW.out.size))
      clear hB
      go_wp2_with fail
      refine (C1'.out _).mono ?_
      rw [HP3.out]
      rintro e w2 ⟨A2, ny, c2, rfl, k1, k2, k3, k4, hB⟩
      have HR := Lib.hid (HR.out.below hB)
      clear k1 k4
      have HW := Lib.hid (HW.out.trans (hB.mono HW.out.size))
      clear hB
      obtain ⟨bx, ox, hAx⟩ : ∃ bx ox, A1 = some ⟨bx, ox, none⟩ ∨ xs = [] := by
        by_cases hx : xs = []
        · exact ⟨0, 0, .inr hx⟩
        · obtain ⟨bx, ox, e, _⟩ := HR.out hx
          exact ⟨bx, ox, .inl e⟩
      rcases hAx with rfl | hx0
      case' inr =>
        exfalso
        have hq := HP2.out
        rw [hx0] at hq
        have : ∀ n : Nat, 2 ≤ n → n ≤ 8 → npairs n ≠ 0 := by intro n h1 h2; unfold npairs; have : 2 * 1 ≤ n * (n - 1) := Nat.mul_le_mul h1 (by omega); omega
        exact this n (by omega) (by omega) hq.symm
      go_wp2_with fail
      go_loopw [12, 13] (fun q v wr => ∃ u : Nat, v = .int .i64 u ∧ u ≤ n' ∧ LessI w2 w2.heap.size (lessTo n xs (endsTo n' u)) q wr) (fun _ v _ => n' - (intOf v).toNat)
      case atStart => exact ⟨0, rfl, Nat.zero_le _, LessI.new w2⟩
      case round =>
        obtain ⟨u, rfl, hu, A3, n3, c3, rfl, HO, HN3, HB3, hbase⟩ := hrel
        by_cases hlt : u < n'
        · go_wp2_with fail
          go_loopw [12, 14] (fun q v wr => ∃ v' : Nat, v = .int .i64 v' ∧ u + 1 ≤ v' ∧ v' ≤ n' ∧ LessI w2 w2.heap.size (lessTo n xs (endsTo n' u ++ rowTo u v')) q wr) (fun _ v _ => n' - (intOf v).toNat)
          case atStart => exact ⟨u + 1, by go_num, Nat.le_refl _, by omega, A3, n3, c3, rfl, by rw [rowTo_nil, List.append_nil]; exact HO, by rw [rowTo_nil, List.append_nil]; exact HN3, HB3, hbase⟩
          case round =>
            clear HO HN3 HB3
            obtain ⟨v, rfl, huv, hv, A3, n3, c3, rfl, HO, HN3, HB3, hbase⟩ := hrel
            by_cases hlt2 : v < n'
            · have HRr := Lib.hid (HR.out.below HB3.out)
              obtain ⟨z1, z2, z3⟩ := place_cell (by omega) HP2.out (by omega : u < v) (by omega : v < n) HRr.out
              have z2' : placeZ n u v < (nx : Int) := by rw [HN.out]; exact z2
              have hlen : (lessTo n xs (endsTo n' u ++ rowTo u v)).length ≤ 1000 := by
                unfold lessTo
                rw [List.length_map, List.length_append, rowTo_len]
                have := endsTo_len n' u
                have h8 : u * n' ≤ 8 * 8 := Nat.mul_le_mul (by omega) (by omega)
                omega
              obtain ⟨A4, n4, c4, w4, hrun, ho, hb⟩ := ow_push (colN n xs u v) HO.out (Nat.le_trans hbase HB3.out.size) hlen
              have HRUN := Lib.hid hrun
              have HO4 := Lib.hid ho
              have HB4 := Lib.hid (HB3.out.trans hb)
              have CP := Lib.hid (fun W : World => pair_calls n u v W (by omega) (by omega) (by omega) (by omega))
              obtain ⟨k, hk⟩ := Int.eq_ofNat_of_zero_le z1
              rw [hk] at z1 z2' z3 CP
              rw [Int.toNat_natCast] at z3
              clear hrun ho hb z2 hk hlen
              go_wp2_with fail
              refine (CP.out _).mono ?_
              rintro e u9 ⟨rfl, rfl⟩
              go_wp2_with (at_builtin; refine wpList_app rfl (.tmp 77) (.tmp 82) 22 22 rfl rfl _ _ rfl rfl HRUN.out ?_)
              go_roundw
              case rel => exact ⟨v + 1, by go_num, by omega, by omega, _, _, _, rfl, by rw [rowTo_succ u v huv, ← List.append_assoc, lessTo_snoc]; exact HO4, by rw [rowTo_succ u v huv, ← List.append_assoc, lessTo_snoc]; exact HO4.out.len, HB4, hbase⟩
              case measure => simp [intOf]; omega
            · have hvn : v = n' := by omega
              have HO5 : Hid (Ow wr w2.heap.size (.slice A3 n3 c3) (lessTo n xs (endsTo n' (u + 1)))) := by
                have := HO.out
                rw [hvn, ← endsTo_succ] at this; exact this
              clear hvn
              go_wp2_with fail
              go_roundw
              case rel => exact ⟨u + 1, by go_num, by omega, _, _, _, rfl, HO5, HO5.out.len, HB3, hbase⟩
              case measure => simp [intOf]; omega
        · have hun : u = n' := by omega
          have HO5 : Hid (Ow wr w2.heap.size (.slice A3 n3 c3) (lessOf n xs)) := by
            have := HO.out
            rw [hun] at this
            unfold lessOf
            rw [show n - 1 = n' by have := HN'.out; omega]
            exact this
          clear hun
          have hlo := HO5.out.len
          obtain ⟨A6, n6, c6, e6, l1, l2, l3, l4⟩ := HO5.out.sl.parts
          cases e6
          have HL1 := Lib.hid l1
          have HR6 := Lib.hid l4
          clear l1 l4 hlo
          have HW := Lib.hid (HW.out.trans (HB3.out.mono HW.out.size))
          go_wp2_with fail
          refine (Clique_calls n' 0 a A3 n3 c3 (lessOf n xs) _ HL1.out HR6.out l2 l3).mono ?_
          rw [HP4.out]
          rintro e w5 ⟨v, rfl, ho, hB⟩
          obtain rfl : v = .slice none 0 0 := ho
          have HR6 := Lib.hid (HR6.out.below hB)
          have HW := Lib.hid (HW.out.trans (hB.mono HW.out.size))
          clear hB
          go_wp2_with fail
          refine (Clique_calls n' 1 b A3 n3 c3 (lessOf n xs) _ HL1.out HR6.out l2 l3).mono ?_
          rw [HP5.out]
          rintro e w6 ⟨v, rfl, ho, hB⟩
          obtain rfl : v = .slice none 0 0 := ho
          have HW := Lib.hid (HW.out.trans (hB.mono HW.out.size))
          clear hB
          go_wp2_with fail
          have d3 := (HW.out.cell (p := ⟨w.heap.size + 1, 0, none⟩) HS.out).trans F3.out
          have d4 := (HW.out.cell (p := ⟨w.heap.size + 1, 1, none⟩) HS.out).trans F4.out
          go_quiet ((go_at_call 33; first | (with_reducible exact Q4.out _ _) | (with_reducible exact Q5.out _ _)))
          have HW := Lib.hid (below_drewN HW.out nq)
          clear d3 d4
          go_wp2_with fail
          refine (C2.out _).mono ?_
          rw [HP6.out]
          rintro e w7 ⟨A7, n7, c7, rfl, g71, g72, g73, g74, hB⟩
          have hn7 : n7 = m := by rw [g71, HP7.out]
          have HR7 := Lib.hid g74
          clear g71 g74
          subst hn7
          have HW := Lib.hid (HW.out.trans (hB.mono HW.out.size))
          clear hB
          go_wp2_with fail
          refine (C2'.out _).mono ?_
          rw [HP8.out]
          rintro e w8 ⟨A8, n8, c8, rfl, g81, g82, g83, g84, hB⟩
          have HR7 := Lib.hid (HR7.out.below hB)
          clear g81 g84
          have HW := Lib.hid (HW.out.trans (hB.mono HW.out.size))
          clear hB
          go_wp2_with fail
          refine (Sum_calls A7 m' m' (ss.take m') _ (by rw [List.length_take]; have := HP7.out; omega) (HR7.out.take m') (Nat.le_refl _) (by omega)).mono ?_
          rw [HP9.out]
          rintro e w9 ⟨v, rfl, ho, hB⟩
          obtain rfl : v = .slice none 0 0 := ho
          have HW := Lib.hid (HW.out.trans (hB.mono HW.out.size))
          clear hB
          go_wp2_with fail
          refine (lives_calls _).mono ?_
          rintro e x9 ⟨rfl, hB⟩
          have HX9 := Lib.hid (HBb.out.trans ((HW.out.trans (hB.mono HW.out.size)).mono HBb.out.size))
          clear hB
          go_wp2_with fail
          go_ret
          exact ⟨rfl, HX9.out⟩
    · obtain ⟨xs, ys, p1, p2, p3, p4, p5⟩ := WA
      have HP1 := Lib.hid p1
      have HP2 := Lib.hid p2
      have HP3 := Lib.hid p3
      have HP4 := Lib.hid p4
      have HP5 := Lib.hid p5
      clear p1 p2 p3 p4 p5
      have HP6 := Lib.hid WB
      clear WB
      go_enter Try.func10, Try.ntmps10
      go_wp2_with fail
      rw [← HWB.out]
      go_quiet ((go_at_call 33; first | (with_reducible exact Q1.out _) | (with_reducible exact Q2.out _) | (with_reducible exact Q3.out _)))
      obtain ⟨W, hW⟩ : ∃ W, W = wb.drewN nq := ⟨_, rfl⟩
      have HBb : Hid (Below w.heap.size w W) := by rw [hW]; exact below_drewN HBa.out nq
      have F3 : Hid (W.cell? ⟨w.heap.size + 1, 0, none⟩ = some (.int .u8 y0)) := by rw [hW]; exact E3.out
      have F4 : Hid (W.cell? ⟨w.heap.size + 1, 1, none⟩ = some (.int .u8 y1)) := by rw [hW]; exact E4.out
      have HS : Hid (w.heap.size + 1 < W.heap.size) := by rw [hW]; show w.heap.size + 1 < wb.heap.size; rw [HSB.out]; omega
      rw [← hW]
      clear d0 d1 d2 hW
      have HW := Lib.hid (Below.refl W.heap.size W)
      go_wp2_with fail
      refine (C1.out _).mono ?_
      rw [HP1.out]
      rintro e w1 ⟨A1, nx, c1, rfl, g1, g2, g3, g4, hB⟩
      have HN := Lib.hid g1
      have HR := Lib.hid g4
      clear g1 g4
      have HW := Lib.hid (HW.out.trans (hB.mono HW.out.size))
      clear hB
      go_wp2_with fail
      refine (C1'.out _).mono ?_
      rw [HP3.out]
      rintro e w2 ⟨A2, ny, c2, rfl, k1, k2, k3, k4, hB⟩
      have HR := Lib.hid (HR.out.below hB)
      clear k1 k4
      have HW := Lib.hid (HW.out.trans (hB.mono HW.out.size))
      clear hB
      obtain ⟨bx, ox, hAx⟩ : ∃ bx ox, A1 = some ⟨bx, ox, none⟩ ∨ xs = [] := by
        by_cases hx : xs = []
        · exact ⟨0, 0, .inr hx⟩
        · obtain ⟨bx, ox, e, _⟩ := HR.out hx
          exact ⟨bx, ox, .inl e⟩
      rcases hAx with rfl | hx0
      case' inr =>
        exfalso
        have hq := HP2.out
        rw [hx0] at hq
        have : ∀ n : Nat, 2 ≤ n → n ≤ 8 → npairs n ≠ 0 := by intro n h1 h2; unfold npairs; have : 2 * 1 ≤ n * (n - 1) := Nat.mul_le_mul h1 (by omega); omega
        exact this n (by omega) (by omega) hq.symm
      go_wp2_with fail
      go_loopw [12, 13] (fun q v wr => ∃ u : Nat, v = .int .i64 u ∧ u ≤ n' ∧ LessI w2 w2.heap.size (lessTo n xs (endsTo n' u)) q wr) (fun _ v _ => n' - (intOf v).toNat)
      case atStart => exact ⟨0, rfl, Nat.zero_le _, LessI.new w2⟩
      case round =>
        obtain ⟨u, rfl, hu, A3, n3, c3, rfl, HO, HN3, HB3, hbase⟩ := hrel
        by_cases hlt : u < n'
        · go_wp2_with fail
          go_loopw [12, 14] (fun q v wr => ∃ v' : Nat, v = .int .i64 v' ∧ u + 1 ≤ v' ∧ v' ≤ n' ∧ LessI w2 w2.heap.size (lessTo n xs (endsTo n' u ++ rowTo u v')) q wr) (fun _ v _ => n' - (intOf v).toNat)
          case atStart => exact ⟨u + 1, by go_num, Nat.le_refl _, by omega, A3, n3, c3, rfl, by rw [rowTo_nil, List.append_nil]; exact HO, by rw [rowTo_nil, List.append_nil]; exact HN3, HB3, hbase⟩
          case round =>
            clear HO HN3 HB3
            obtain ⟨v, rfl, huv, hv, A3, n3, c3, rfl, HO, HN3, HB3, hbase⟩ := hrel
            by_cases hlt2 : v < n'
            · have HRr := Lib.hid (HR.out.below HB3.out)
              obtain ⟨z1, z2, z3⟩ := place_cell (by omega) HP2.out (by omega : u < v) (by omega : v < n) HRr.out
              have z2' : placeZ n u v < (nx : Int) := by rw [HN.out]; exact z2
              have hlen : (lessTo n xs (endsTo n' u ++ rowTo u v)).length ≤ 1000 := by
                unfold lessTo
                rw [List.length_map, List.length_append, rowTo_len]
                have := endsTo_len n' u
                have h8 : u * n' ≤ 8 * 8 := Nat.mul_le_mul (by omega) (by omega)
                omega
              obtain ⟨A4, n4, c4, w4, hrun, ho, hb⟩ := ow_push (colN n xs u v) HO.out (Nat.le_trans hbase HB3.out.size) hlen
              have HRUN := Lib.hid hrun
              have HO4 := Lib.hid ho
              have HB4 := Lib.hid (HB3.out.trans hb)
              have CP := Lib.hid (fun W : World => pair_calls n u v W (by omega) (by omega) (by omega) (by omega))
              obtain ⟨k, hk⟩ := Int.eq_ofNat_of_zero_le z1
              rw [hk] at z1 z2' z3 CP
              rw [Int.toNat_natCast] at z3
              clear hrun ho hb z2 hk hlen
              go_wp2_with fail
              refine (CP.out _).mono ?_
              rintro e u9 ⟨rfl, rfl⟩
              go_wp2_with (at_builtin; refine wpList_app rfl (.tmp 77) (.tmp 82) 22 22 rfl rfl _ _ rfl rfl HRUN.out ?_)
              go_roundw
              case rel => exact ⟨v + 1, by go_num, by omega, by omega, _, _, _, rfl, by rw [rowTo_succ u v huv, ← List.append_assoc, lessTo_snoc]; exact HO4, by rw [rowTo_succ u v huv, ← List.append_assoc, lessTo_snoc]; exact HO4.out.len, HB4, hbase⟩
              case measure => simp [intOf]; omega
            · have hvn : v = n' := by omega
              have HO5 : Hid (Ow wr w2.heap.size (.slice A3 n3 c3) (lessTo n xs (endsTo n' (u + 1)))) := by
                have := HO.out
                rw [hvn, ← endsTo_succ] at this; exact this
              clear hvn
              go_wp2_with fail
              go_roundw
              case rel => exact ⟨u + 1, by go_num, by omega, _, _, _, rfl, HO5, HO5.out.len, HB3, hbase⟩
              case measure => simp [intOf]; omega
        · have hun : u = n' := by omega
          have HO5 : Hid (Ow wr w2.heap.size (.slice A3 n3 c3) (lessOf n xs)) := by
            have := HO.out
            rw [hun] at this
            unfold lessOf
            rw [show n - 1 = n' by have := HN'.out; omega]
            exact this
          clear hun
          have hlo := HO5.out.len
          obtain ⟨A6, n6, c6, e6, l1, l2, l3, l4⟩ := HO5.out.sl.parts
          cases e6
          have HL1 := Lib.hid l1
          have HR6 := Lib.hid l4
          clear l1 l4 hlo
          have HW := Lib.hid (HW.out.trans (HB3.out.mono HW.out.size))
          go_wp2_with fail
          refine (Clique_calls n' 0 a A3 n3 c3 (lessOf n xs) _ HL1.out HR6.out l2 l3).mono ?_
          rw [HP4.out]
          rintro e w5 ⟨v, rfl, ho, hB⟩
          obtain rfl : v = .slice none 0 0 := ho
          have HR6 := Lib.hid (HR6.out.below hB)
          have HW := Lib.hid (HW.out.trans (hB.mono HW.out.size))
          clear hB
          go_wp2_with fail
          refine (Clique_calls n' 1 b A3 n3 c3 (lessOf n xs) _ HL1.out HR6.out l2 l3).mono ?_
          rw [HP5.out]
          rintro e w6 ⟨v, rfl, ho, hB⟩
          obtain rfl : v = .slice none 0 0 := ho
          have HW := Lib.hid (HW.out.trans (hB.mono HW.out.size))
          clear hB
          go_wp2_with fail
          have d3 := (HW.out.cell (p := ⟨w.heap.size + 1, 0, none⟩) HS.out).trans F3.out
          have d4 := (HW.out.cell (p := ⟨w.heap.size + 1, 1, none⟩) HS.out).trans F4.out
          go_quiet ((go_at_call 33; first | (with_reducible exact Q4.out _ _) | (with_reducible exact Q5.out _ _)))
          have HW := Lib.hid (below_drewN HW.out nq)
          clear d3 d4
          go_wp2_with fail
          refine (C2.out _).mono ?_
          rw [HP6.out]
          rintro e w7 ⟨rfl, hB⟩
          have HW := Lib.hid (HW.out.trans (hB.mono HW.out.size))
          clear hB
          go_wp2_with fail
          refine (C2'.out _).mono ?_
          intro e w8 hres
          obtain ⟨v2, q2, rfl⟩ := hres.tuple
          have hB := hres.below
          clear hres
          have HW := Lib.hid (HW.out.trans (hB.mono HW.out.size))
          clear hB
          go_wp2_with fail
          refine (lives_calls _).mono ?_
          rintro e x9 ⟨rfl, hB⟩
          have HX9 := Lib.hid (HBb.out.trans ((HW.out.trans (hB.mono HW.out.size)).mono HBb.out.size))
          clear hB
          go_wp2_with fail
          go_ret
          exact ⟨rfl, HX9.out⟩
  · rcases WB with WB | WB
    · have HP1 := Lib.hid WA
      clear WA
      obtain ⟨ss, ts, p1, p2, p3, p4⟩ := WB
      have HP6 := Lib.hid p1
      have HP7 := Lib.hid p2
      have HP8 := Lib.hid p3
      have HP9 := Lib.hid p4
      clear p1 p2 p3 p4
      go_enter Try.func10, Try.ntmps10
      go_wp2_with fail
      rw [← HWB.out]
      go_quiet ((go_at_call 33; first | (with_reducible exact Q1.out _) | (with_reducible exact Q2.out _) | (with_reducible exact Q3.out _)))
      obtain ⟨W, hW⟩ : ∃ W, W = wb.drewN nq := ⟨_, rfl⟩
      have HBb : Hid (Below w.heap.size w W) := by rw [hW]; exact below_drewN HBa.out nq
      have F3 : Hid (W.cell? ⟨w.heap.size + 1, 0, none⟩ = some (.int .u8 y0)) := by rw [hW]; exact E3.out
      have F4 : Hid (W.cell? ⟨w.heap.size + 1, 1, none⟩ = some (.int .u8 y1)) := by rw [hW]; exact E4.out
      have HS : Hid (w.heap.size + 1 < W.heap.size) := by rw [hW]; show w.heap.size + 1 < wb.heap.size; rw [HSB.out]; omega
      rw [← hW]
      clear d0 d1 d2 hW
      have HW := Lib.hid (Below.refl W.heap.size W)
      go_wp2_with fail
      refine (C1.out _).mono ?_
      rw [HP1.out]
      rintro e w1 ⟨rfl, hB⟩
      have HW := Lib.hid (HW.out.trans (hB.mono HW.out.size))
      clear hB
      go_wp2_with fail
      refine (C1'.out _).mono ?_
      intro e w2 hres
      obtain ⟨v2, q2, rfl⟩ := hres.tuple
      have hB := hres.below
      clear hres
      have HW := Lib.hid (HW.out.trans (hB.mono HW.out.size))
      clear hB
      go_wp2_with fail
      have d3 := (HW.out.cell (p := ⟨w.heap.size + 1, 0, none⟩) HS.out).trans F3.out
      have d4 := (HW.out.cell (p := ⟨w.heap.size + 1, 1, none⟩) HS.out).trans F4.out
      go_quiet ((go_at_call 33; first | (with_reducible exact Q4.out _ _) | (with_reducible exact Q5.out _ _)))
      have HW := Lib.hid (below_drewN HW.out nq)
      clear d3 d4
      go_wp2_with fail
      refine (C2.out _).mono ?_
      rw [HP6.out]
      rintro e w7 ⟨A7, n7, c7, rfl, g71, g72, g73, g74, hB⟩
      have hn7 : n7 = m := by rw [g71, HP7.out]
      have HR7 := Lib.hid g74
      clear g71 g74
      subst hn7
      have HW := Lib.hid (HW.out.trans (hB.mono HW.out.size))
      clear hB
      go_wp2_with fail
      refine (C2'.out _).mono ?_
      rw [HP8.out]
      rintro e w8 ⟨A8, n8, c8, rfl, g81, g82, g83, g84, hB⟩
      have HR7 := Lib.hid (HR7.out.below hB)
      clear g81 g84
      have HW := Lib.hid (HW.out.trans (hB.mono HW.out.size))
      clear hB
      go_wp2_with fail
      refine (Sum_calls A7 m' m' (ss.take m') _ (by rw [List.length_take]; have := HP7.out; omega) (HR7.out.take m') (Nat.le_refl _) (by omega)).mono ?_
      rw [HP9.out]
      rintro e w9 ⟨v, rfl, ho, hB⟩
      obtain rfl : v = .slice none 0 0 := ho
      have HW := Lib.hid (HW.out.trans (hB.mono HW.out.size))
      clear hB
      go_wp2_with fail
      refine (lives_calls _).mono ?_
      rintro e x9 ⟨rfl, hB⟩
      have HX9 := Lib.hid (HBb.out.trans ((HW.out.trans (hB.mono HW.out.size)).mono HBb.out.size))
      clear hB
      go_wp2_with fail
      go_ret
      exact ⟨rfl, HX9.out⟩
    · have HP1 := Lib.hid WA
      clear WA
      have HP6 := Lib.hid WB
      clear WB
      go_enter Try.func10, Try.ntmps10
      go_wp2_with fail
      rw [← HWB.out]
      go_quiet ((go_at_call 33; first | (with_reducible exact Q1.out _) | (with_reducible exact Q2.out _) | (with_reducible exact Q3.out _)))
      obtain ⟨W, hW⟩ : ∃ W, W = wb.drewN nq := ⟨_, rfl⟩
      have HBb : Hid (Below w.heap.size w W) := by rw [hW]; exact below_drewN HBa.out nq
      have F3 : Hid (W.cell? ⟨w.heap.size + 1, 0, none⟩ = some (.int .u8 y0)) := by rw [hW]; exact E3.out
      have F4 : Hid (W.cell? ⟨w.heap.size + 1, 1, none⟩ = some (.int .u8 y1)) := by rw [hW]; exact E4.out
      have HS : Hid (w.heap.size + 1 < W.heap.size) := by rw [hW]; show w.heap.size + 1 < wb.heap.size; rw [HSB.out]; omega
      rw [← hW]
      clear d0 d1 d2 hW
      have HW := Lib.hid (Below.refl W.heap.size W)
      go_wp2_with fail
      refine (C1.out _).mono ?_
      rw [HP1.out]
      rintro e w1 ⟨rfl, hB⟩
      have HW := Lib.hid (HW.out.trans (hB.mono HW.out.size))
      clear hB
      go_wp2_with fail
      refine (C1'.out _).mono ?_
      intro e w2 hres
      obtain ⟨v2, q2, rfl⟩ := hres.tuple
      have hB := hres.below
      clear hres
      have HW := Lib.hid (HW.out.trans (hB.mono HW.out.size))
      clear hB
      go_wp2_with fail
      have d3 := (HW.out.cell (p := ⟨w.heap.size + 1, 0, none⟩) HS.out).trans F3.out
      have d4 := (HW.out.cell (p := ⟨w.heap.size + 1, 1, none⟩) HS.out).trans F4.out
      go_quiet ((go_at_call 33; first | (with_reducible exact Q4.out _ _) | (with_reducible exact Q5.out _ _)))
      have HW := Lib.hid (below_drewN HW.out nq)
      clear d3 d4
      go_wp2_with fail
      refine (C2.out _).mono ?_
      rw [HP6.out]
      rintro e w7 ⟨rfl, hB⟩
      have HW := Lib.hid (HW.out.trans (hB.mono HW.out.size))
      clear hB
      go_wp2_with fail
      refine (C2'.out _).mono ?_
      intro e w8 hres
      obtain ⟨v2, q2, rfl⟩ := hres.tuple
      have hB := hres.below
      clear hres
      have HW := Lib.hid (HW.out.trans (hB.mono HW.out.size))
      clear hB
      go_wp2_with fail
      refine (lives_calls _).mono ?_
      rintro e x9 ⟨rfl, hB⟩
      have HX9 := Lib.hid (HBb.out.trans ((HW.out.trans (hB.mono HW.out.size)).mono HBb.out.size))
      clear hB
      go_wp2_with fail
      go_ret
      exact ⟨rfl, HX9.out⟩
end Go.Proofs.Ytplafgmceggcnaa
