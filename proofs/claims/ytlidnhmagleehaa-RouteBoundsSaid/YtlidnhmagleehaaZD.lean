/- What is proved: few, cut, Graph. No condition beyond those in each statement. -/
import Derived.Test.YtlidnhmagleehaaZC
import Derived.Laws.OwnMore
namespace Go.Proofs.Ytlidnhmagleehaa
open Go.RowKit

theorem rdE_cells {w : World} {a : Addr} {es : List (Int × Int)} (hF : RdE w (some a) es) : ∀ j u, (pairC es)[j]? = some u → w.cell? (a.add j) = some u := by
  intro j u hj
  have hlt := (List.getElem?_eq_some_iff.1 hj).1
  rw [pairC_len] at hlt
  obtain ⟨b', o', e, _, hc⟩ := hF (fun e => by subst e; simp at hlt)
  cases e
  obtain ⟨q0, q1⟩ := hc (j / 2) (by omega)
  obtain ⟨p0, p1⟩ := pairC_get es (j / 2) (by omega)
  rw [addr_add]
  rcases Nat.mod_two_eq_zero_or_one j with hm | hm
  · have e : j / 2 * 2 = j := by omega
    rw [e] at q0 p0
    rw [hj] at p0; cases p0; exact q0
  · have e : j / 2 * 2 + 1 = j := by omega
    rw [Nat.add_assoc, e] at q1
    rw [e] at p1
    rw [hj] at p1; cases p1; exact q1
theorem cpe_one {w : World} {L : Option Addr} {nl cl : Nat} {es : List (Int × Int)} (hn : nl = es.length) (hx : RdE w L es) (hL : L = none → cl = 0 ∧ es = []) (hl : es.length ≤ 1000) :
    ∃ g c w1, (Builtin.append_ #[22, 22] 22 #[.slice (some ⟨w.heap.size, 0, none⟩) 0 0, .slice L nl cl]).run Try.prog (w.alloc (.cells #[] 55)) = .ok (.slice (some ⟨g, 0, none⟩) nl c) w1 ∧ OwE w1 w.heap.size g c es ∧ Below w.heap.size w w1 := by
  have h0 := owe_new w w.heap.size (Nat.le_refl _)
  have hb0 : Below w.heap.size w (w.alloc (.cells #[] 55)) := (Below.refl _ _).alloc (Nat.le_refl _) _
  subst hn
  cases L with
  | none =>
    obtain ⟨rfl, rfl⟩ := hL rfl
    obtain ⟨i0, hi, hz0, hz1, hz2⟩ := info_parts info55
    exact ⟨_, _, _, run_append_owned_none _ w.heap.size 22 22 55 i0 2 Try.underlying22 hi _ 0 [] h0, h0, hb0⟩
  | some a =>
    obtain ⟨v', w', hrun, g', c', rfl, ho, hB, _⟩ := owe_app (es := []) (fs := es) (a := a) (cf := cl) h0 (rdE_cells (hx.below hb0)) (by simp) (by simpa using hl)
    exact ⟨g', c', w', hrun, ho, hb0.trans hB⟩
theorem cpi_one {w : World} {L : Option Addr} {nl cl : Nat} {xs : List Int} (hn : nl = xs.length) (hx : Rd w L xs) (hL : L = none → cl = 0 ∧ xs = []) (hl : xs.length ≤ 1000) :
    ∃ g c w1, (Builtin.append_ #[27, 27] 27 #[.slice (some ⟨w.heap.size, 0, none⟩) 0 0, .slice L nl cl]).run Try.prog (w.alloc (.cells #[] 3)) = .ok (.slice (some ⟨g, 0, none⟩) nl c) w1 ∧ Arr w1 w.heap.size g c xs ∧ Below w.heap.size w w1 := by
  have h0 := arr_newE w w.heap.size w.heap.size (Nat.le_refl _) rfl
  have hb0 : Below w.heap.size w (w.alloc (.cells #[] 3)) := (Below.refl _ _).alloc (Nat.le_refl _) _
  subst hn
  cases L with
  | none =>
    obtain ⟨rfl, rfl⟩ := hL rfl
    obtain ⟨i0, hi, hz0, hz1, hz2⟩ := info_parts info3'
    exact ⟨_, _, _, run_append_owned_none _ w.heap.size 27 27 3 i0 1 Try.underlying27 hi _ 0 [] h0, h0, hb0⟩
  | some a =>
    obtain ⟨v', w', hrun, g', c', rfl, ho, hB, _⟩ := owi_app (xs := []) (ys := xs) (a := a) (cf := cl) rfl rfl h0 (fun j hj => by
      obtain ⟨b, o, e, _, hc⟩ := (hx.below hb0).at j hj
      cases e
      rw [addr_add]; exact hc) (by simp) (by simpa using hl)
    exact ⟨g', c', w', hrun, ho, hb0.trans hB⟩
theorem RdE.take {w : World} {A : Option Addr} {es : List (Int × Int)} (h : RdE w A es) (k : Nat) : RdE w A (es.take k) := fun hne => by
  obtain ⟨b, o, e, hlt, hc⟩ := h (fun e => hne (by simp [e]))
  refine ⟨b, o, e, hlt, fun i hi => ?_⟩
  rw [List.getElem_take]
  exact hc i (by rw [List.length_take] at hi; omega)
set_option maxHeartbeats 2000000 in
theorem few_calls (A : Option Addr) (m c : Nat) (es : List (Int × Int)) (w : World) (hm : m = es.length) (hA : RdE w A es) (hl : m ≤ c) (hc : c ≤ 9223372036854775807) (hn : A = none → c = 0) :
    Calls Try.prog 14 #[.slice A m c] w fun e w' => ∃ g c', e = .returned (.slice (some ⟨g, 0, none⟩) (es.take 31).length c') ∧ OwE w' w.heap.size g c' (es.take 31) ∧ Below w.heap.size w w' := by
  obtain ⟨t, ht⟩ : ∃ t : Nat, t = min m 31 := ⟨_, rfl⟩
  have htl : t = (es.take 31).length := by rw [List.length_take]; omega
  obtain ⟨g, c1, w1, hrun, ho, hB⟩ := cpe_one (nl := t) (cl := c) htl (hA.take 31) (fun e => ⟨hn e, by have h0 := hn e; have : es = [] := List.eq_nil_of_length_eq_zero (by omega); rw [this]; rfl⟩) (by rw [List.length_take]; omega)
  have HRUN := Lib.hid hrun
  have HR := Lib.hid (And.intro htl (And.intro ho hB))
  have hmin : min (m : Int) 31 = (t : Int) := by omega
  have z1 : (0 : Int) ≤ (t : Int) := by omega
  have z2 : (t : Int) ≤ (c : Int) := by omega
  have z3 : t ≤ c := by omega
  clear hm hA hn htl hrun ho hB
  by_cases h31 : m ≤ 31
  · have e : t = m := by omega
    subst e
    clear ht hmin
    go_enter Try.func14, Try.ntmps14
    go_wp2_with (at_builtin; refine wpList_app rfl (.tmp 3) (.tmp 8) 22 22 rfl rfl _ _ rfl rfl HRUN.out ?_)
    go_ret
    obtain ⟨h1, h2, h3⟩ := HR.out
    rw [← h1]
    exact ⟨g, c1, rfl, h2, h3⟩
  · have e : t = 31 := by omega
    subst e
    clear ht hmin
    have t1 : (31 : Int) < (m : Int) := by omega
    go_enter Try.func14, Try.ntmps14
    go_wp2_with (at_builtin; refine wpList_app rfl (.tmp 3) (.tmp 8) 22 22 rfl rfl _ _ rfl rfl HRUN.out ?_)
    all_goals
      go_ret
      obtain ⟨h1, h2, h3⟩ := HR.out
      rw [← h1]
      exact ⟨g, c1, rfl, h2, h3⟩
set_option maxHeartbeats 2000000 in
theorem cutl_calls (A : Option Addr) (m c : Nat) (es : List Int) (w : World) (hm : m = es.length) (hA : Rd w A es) (hl : m ≤ c) (hc : c ≤ 9223372036854775807) (hn : A = none → c = 0) :
    Calls Try.prog 30 #[.slice A m c] w fun e w' => ∃ g c', e = .returned (.slice (some ⟨g, 0, none⟩) (es.take 9).length c') ∧ Arr w' w.heap.size g c' (es.take 9) ∧ Below w.heap.size w w' := by
  obtain ⟨t, ht⟩ : ∃ t : Nat, t = min m 9 := ⟨_, rfl⟩
  have htl : t = (es.take 9).length := by rw [List.length_take]; omega
  obtain ⟨g, c1, w1, hrun, ho, hB⟩ := cpi_one (nl := t) (cl := c) htl (hA.take 9) (fun e => ⟨hn e, by have h0 := hn e; have : es = [] := List.eq_nil_of_length_eq_zero (by omega); rw [this]; rfl⟩) (by rw [List.length_take]; omega)
  have HRUN := Lib.hid hrun
  have HR := Lib.hid (And.intro htl (And.intro ho hB))
  have hmin : min (m : Int) 9 = (t : Int) := by omega
  have z1 : (0 : Int) ≤ (t : Int) := by omega
  have z2 : (t : Int) ≤ (c : Int) := by omega
  have z3 : t ≤ c := by omega
  clear hm hA hn htl hrun ho hB
  by_cases h31 : m ≤ 9
  · have e : t = m := by omega
    subst e
    clear ht hmin
    go_enter Try.func30, Try.ntmps30
    go_wp2_with (at_builtin; refine wpList_app rfl (.tmp 3) (.tmp 8) 27 27 rfl rfl _ _ rfl rfl HRUN.out ?_)
    go_ret
    obtain ⟨h1, h2, h3⟩ := HR.out
    rw [← h1]
    exact ⟨g, c1, rfl, h2, h3⟩
  · have e : t = 9 := by omega
    subst e
    clear ht hmin
    have t1 : (9 : Int) < (m : Int) := by omega
    go_enter Try.func30, Try.ntmps30
    go_wp2_with (at_builtin; refine wpList_app rfl (.tmp 3) (.tmp 8) 27 27 rfl rfl _ _ rfl rfl HRUN.out ?_)
    all_goals
      go_ret
      obtain ⟨h1, h2, h3⟩ := HR.out
      rw [← h1]
      exact ⟨g, c1, rfl, h2, h3⟩
set_option maxHeartbeats 4000000 in
theorem graph_calls (A : Option Addr) (m c : Nat) (es : List (Int × Int)) (n : Int) (w : World) (hn : m = es.length) (hA : RdE w A es) (hl : m ≤ c) (hc : c ≤ 9223372036854775807) :
    Calls Try.prog 15 #[.int .i64 n, .slice A m c] w fun e w' => e = .returned (.int .i64 (checkF n es)) ∧ Below w.heap.size w w' := by
  have HN := Lib.hid hn
  have HA := Lib.hid hA
  clear hn hA
  have hnn : (m : Int) ≤ 9223372036854775807 := by omega
  by_cases h1 : 30 < m
  · have HR : Hid (checkF n es = 3) := by show _ = _; unfold checkF; rw [if_pos (by have := HN.out; omega)]
    have t1 : decide ((m : Int) > 30) = true := decide_eq_true (by omega)
    go_enter Try.func15, Try.ntmps15
    go_wp2_with fail
    go_ret
    exact ⟨ret_int HR.out.symm, Below.refl _ _⟩
  · have t1 : decide ((m : Int) > 30) = false := decide_eq_false (by omega)
    have hin : inB n 1 8 = true ↔ 1 ≤ n ∧ n ≤ 8 := by unfold inB; simp
    cases h2 : inB n 1 8
    · have HR : Hid (checkF n es = 1) := by
        show _ = _
        unfold checkF
        rw [if_neg (by have := HN.out; omega), if_pos]
        rw [h2] at hin
        have := mt hin.2 (by simp)
        omega
      have H2 := Lib.hid h2
      clear h2 hin
      go_enter Try.func15, Try.ntmps15
      go_wp2_with fail
      refine (in_calls _ _ _ _).mono ?_
      rintro e w1 ⟨rfl, rfl⟩
      rw [H2.out]
      go_wp2_with fail
      go_ret
      exact ⟨ret_int HR.out.symm, Below.refl _ _⟩
    · obtain ⟨h3, h4⟩ := hin.1 h2
      have HR : Hid (checkF n es = if es.any (badE n) then 1 else 0) := by show _ = _; unfold checkF; rw [if_neg (by have := HN.out; omega), if_neg (by omega)]
      have H2 := Lib.hid h2
      have wn : IntKind.i64.wrap (n - 1) = n - 1 := IntWalk.i64_in _ (by omega)
      clear h2 hin
      go_enter Try.func15, Try.ntmps15
      go_wp2_with fail
      refine (in_calls _ _ _ _).mono ?_
      rintro e w1 ⟨rfl, rfl⟩
      rw [H2.out]
      go_wp2_with fail
      go_loopw [5] (CheckI w n es m) (fun q _ => m - (intOf q).toNat)
      case atStart => exact ⟨0, rfl, Nat.zero_le _, rfl, Below.refl _ _⟩
      case round =>
        obtain ⟨i, rfl, hi, HG, HB⟩ := hrel
        by_cases hlt : i < m
        · have hil : i < es.length := by have := HN.out; omega
          obtain ⟨b, o, rfl, hb, hc1, hc2⟩ := HA.out.at i hil
          have d1 := (HB.out.cell (p := ⟨b, o + i * 2, none⟩) hb).trans hc1
          have d2 := (HB.out.cell (p := ⟨b, o + i * 2 + 1, none⟩) hb).trans hc2
          clear hc1 hc2
          obtain ⟨x, hx⟩ : ∃ x, x = es[i].1 := ⟨_, rfl⟩
          obtain ⟨y, hy⟩ : ∃ x, x = es[i].2 := ⟨_, rfl⟩
          have hxy : es[i] = (x, y) := by rw [hx, hy]
          rw [← hx] at d1
          rw [← hy] at d2
          have hbad : badE n (es[i]'hil) = (!inB x 0 (n - 1) || (!inB y 0 (n - 1) || x == y)) := by
            rw [hxy]
            unfold badE inB
            rw [Bool.eq_iff_iff]
            simp
            omega
          have wi : IntKind.i64.wrap ((i : Int) + 1) = (i : Int) + 1 := IntWalk.i64_in _ (by omega)
          have HE0 : badE n (es[i]'hil) = true → checkF n es = 1 := by
            intro h
            rw [HR.out, if_pos]
            rw [List.any_eq_true]
            exact ⟨es[i], List.getElem_mem _, h⟩
          have HG0 : badE n (es[i]'hil) = false → (es.take (i + 1)).any (badE n) = false := fun h => any_take_succE hil HG.out h
          obtain ⟨bv, hbv⟩ : ∃ bv, bv = badE n (es[i]'hil) := ⟨_, rfl⟩
          rw [← hbv] at HE0 HG0 hbad
          have HE0 := Lib.hid HE0
          have HG0 := Lib.hid HG0
          have HBA : Below w.heap.size w (wr.alloc (.cells #[.int .i64 x, .int .i64 y] 55)) := HB.out.alloc HB.out.size _
          have HBA := Lib.hid HBA
          clear hx hy hxy hbv hil
          cases hax : inB x 0 (n - 1)
          · have HE := Lib.hid (HE0.out (by rw [hbad, hax]; rfl))
            have HAX := Lib.hid hax
            clear hbad hax
            go_wp2_with fail
            refine (in_calls _ _ _ _).mono ?_
            rintro e w1 ⟨rfl, rfl⟩
            rw [HAX.out]
            go_wp2_with fail
            go_ret
            exact ⟨ret_int HE.out.symm, HBA.out⟩
          · cases hay : inB y 0 (n - 1)
            · have HE := Lib.hid (HE0.out (by rw [hbad, hax, hay]; rfl))
              have HAX := Lib.hid hax
              have HAY := Lib.hid hay
              clear hbad hax hay
              go_wp2_with fail
              refine (in_calls _ _ _ _).mono ?_
              rintro e w1 ⟨rfl, rfl⟩
              rw [HAX.out]
              go_wp2_with fail
              refine (in_calls _ _ _ _).mono ?_
              rintro e w1 ⟨rfl, rfl⟩
              rw [HAY.out]
              go_wp2_with fail
              go_ret
              exact ⟨ret_int HE.out.symm, HBA.out⟩
            · cases hxe : (x == y)
              · have HN2 := Lib.hid (HG0.out (by rw [hbad, hax, hay, hxe]; rfl))
                have HAX := Lib.hid hax
                have HAY := Lib.hid hay
                have hxn : ¬ (x = y) := by rw [beq_eq_false_iff_ne] at hxe; exact hxe
                clear hbad hax hay
                go_wp2_with fail
                refine (in_calls _ _ _ _).mono ?_
                rintro e w1 ⟨rfl, rfl⟩
                rw [HAX.out]
                go_wp2_with fail
                refine (in_calls _ _ _ _).mono ?_
                rintro e w1 ⟨rfl, rfl⟩
                rw [HAY.out]
                go_wp2_with fail
                go_roundw
                case rel => exact ⟨i + 1, by go_num, by omega, HN2, HBA⟩
                case measure => simp [intOf]; omega
              · have HE := Lib.hid (HE0.out (by rw [hbad, hax, hay, hxe]; rfl))
                have HAX := Lib.hid hax
                have HAY := Lib.hid hay
                have hxn : x = y := by simpa using hxe
                subst hxn
                clear hbad hax hay
                go_wp2_with fail
                refine (in_calls _ _ _ _).mono ?_
                rintro e w1 ⟨rfl, rfl⟩
                rw [HAX.out]
                go_wp2_with fail
                refine (in_calls _ _ _ _).mono ?_
                rintro e w1 ⟨rfl, rfl⟩
                rw [HAY.out]
                go_wp2_with fail
                go_ret
                exact ⟨ret_int HE.out.symm, HBA.out⟩
        · have HE : Hid (checkF n es = 0) := by
            show _ = _
            have := HG.out
            rw [show i = es.length by have := HN.out; omega, List.take_length] at this
            rw [HR.out, this]; rfl
          go_wp2_with fail
          go_ret
          exact ⟨ret_int HE.out.symm, HB.out⟩
end Go.Proofs.Ytlidnhmagleehaa
