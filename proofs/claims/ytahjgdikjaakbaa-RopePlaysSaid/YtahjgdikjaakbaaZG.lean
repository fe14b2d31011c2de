/- What is proved: RopeAll. No condition beyond those in each statement. -/
import Derived.Test.YtahjgdikjaakbaaZF
namespace Go.Proofs.Ytahjgdikjaakbaa
open Go.RowKit

def AlI (w : World) (T n : Nat) (v7 : Value) (wr : World) : Prop := ∃ (i : Nat) (t : TS), v7 = .int .i64 i ∧ i ≤ 60 ∧ LawI w T n i t wr
set_option maxRecDepth 100000 in
set_option maxHeartbeats 8000000 in
theorem all_calls (x y : Int) (A : Option Addr) (L c : Nat) (xs : List Int) (w : World) (hx : 0 ≤ x ∧ x ≤ 255) (hy : 0 ≤ y ∧ y ≤ 255) (hL : L = xs.length) (hA : RdU w A xs) (_hl : L ≤ c) (hc : c ≤ 9223372036854775807) (hxs : ∀ b ∈ xs, 0 ≤ b ∧ b ≤ 255) :
    Calls Try.prog 5 #[.agg #[.int .u8 x, .int .u8 y], .slice A L c] w fun e w' => e = .returned (.bool true) ∧ Below w.heap.size w w' := by
  obtain ⟨n, hn⟩ : ∃ n, n = mdN x := ⟨_, rfl⟩
  have CM : Hid (Calls Try.prog 13 #[.agg #[.int .u8 x, .int .u8 y]] (w.alloc (.cells #[.int .u8 x, .int .u8 y] 22)) fun e w' => ∃ T, e = .returned (.tuple #[.pointer (some ⟨T, 0, none⟩), .int .i64 n]) ∧ On w T (mdT x y) w') := by rw [hn]; exact tmade_calls w _ ((Below.refl _ _).alloc (Nat.le_refl _) _) x y hx hy
  have hn6 : 1 ≤ n ∧ n ≤ 6 := by rw [hn]; exact (md_ok x y).1
  have CL := Lib.hid (fun w1 => lives_calls w1)
  have HA := Lib.hid hA
  have HL := Lib.hid hL
  have HXS := Lib.hid hxs
  have HLC := Lib.hid _hl
  have HM : Hid (Ok (mdT x y) 0 ∧ (mdT x y).n = n) := ⟨mdT_ok x y, hn.symm⟩
  have hLc : (L : Int) ≤ 9223372036854775807 := by omega
  clear hA hL hxs hn
  go_enter Try.func5, Try.ntmps5
  go_wp2_with fail
  refine CM.out.mono ?_
  rintro e w1 ⟨T, rfl, ho⟩
  have HO := Lib.hid ho
  clear ho CM
  go_wp2_with fail
  refine (CL.out _).mono ?_
  rintro e w2 ⟨rfl, hb⟩
  have HO2 := Lib.hid (HO.out.below hb)
  clear hb CL HO
  go_wp2_with fail
  go_loopw [7] (fun v7 wr => AlI w T n v7 wr) (fun v7 _ => L - (intOf v7).toNat)
  case atStart => exact ⟨0, mdT x y, rfl, by omega, HO2.out, HM.out.1, HM.out.2⟩
  case round =>
    obtain ⟨i, t, rfl, hi60, hlaw⟩ := hrel
    have HLAW := Lib.hid hlaw
    by_cases hcond : i < L ∧ i < 60
    · obtain ⟨h1, h2⟩ := hcond
      have hil : i < xs.length := by have := HL.out; omega
      obtain ⟨b, o, rfl, hb, hcell⟩ := HA.out.at i hil
      have d1 := (hlaw.on.bel.cell (p := ⟨b, o + i, none⟩) hb).trans hcell
      have hxi := HXS.out xs[i] (List.getElem_mem hil)
      obtain ⟨xi, hxi2⟩ : ∃ xi, xi = xs[i] := ⟨_, rfl⟩
      rw [← hxi2] at d1 hxi
      have CA := Lib.hid (hlaw.act (by omega) xi hxi)
      have b1 : (0 : Int) ≤ i ∧ (i : Int) < L := by omega
      obtain ⟨r, hr⟩ : ∃ r, r = t.actB xi := ⟨_, rfl⟩
      rw [← hr] at CA
      clear hlaw hcell hb hxi2 hxi hr
      go_wp2_with fail
      refine CA.out.mono ?_
      rintro e w3 ⟨rfl, hlaw⟩
      obtain ⟨t', ht'⟩ : ∃ t', t' = t.act xi := ⟨_, rfl⟩
      rw [← ht'] at hlaw
      have HLW := Lib.hid hlaw
      clear hlaw CA ht' d1
      go_wp2_with fail
      go_roundw
      case rel => exact ⟨i + 1, t', by go_num, by omega, HLW.out⟩
      case measure => simp [intOf]; omega
    · have hdone : ¬ i < L ∨ ¬ i < 60 := by omega
      by_cases h1 : i < L
      · have h2 : ¬ i < 60 := fun h => hcond ⟨h1, h⟩
        clear hcond hdone
        have CWT : Hid (Calls Try.prog 21 #[.pointer (some ⟨T, 0, none⟩)] wr fun e w' => ∃ v, e = .returned v ∧ Ow w' wr.heap.size v t.wai ∧ On w T t w' ∧ Below wr.heap.size wr w') := on_waiting HLAW.out.on
        clear hlaw
        go_wp2_with fail
        refine CWT.out.mono ?_
        rintro e w3 ⟨v, rfl, ho, hon, hb3⟩
        obtain ⟨f, hfw, hof, hf1, hf2⟩ := on_frame HLAW.out.on hb3
        subst hfw
        have hlf : LawI f T n i t f.w := ⟨hof, HLAW.out.ok, HLAW.out.n⟩
        have hba := HLAW.out.on.bel.trans (hb3.mono HLAW.out.on.bel.size)
        have hrdf : RdU f.w A xs := HA.out.below hba
        have CSE := Lib.hid (settled_calls hlf hi60 HL.out hrdf (fun b o hne e => by
          obtain ⟨b1, o1, e1, hlt, _⟩ := HA.out hne
          rw [e] at e1
          cases e1
          exact hf1 _ hlt) HLC.out hc HXS.out)
        have HF1 := Lib.hid hf1
        have hVF : ∃ N AA cc, N = t.wai.length ∧ v = .slice AA N cc ∧ N ≤ cc ∧ cc ≤ 9223372036854775807 ∧ ∀ k, k < N → ∃ b o, AA = some ⟨b, o, none⟩ ∧ f.Y b ∧ f.w.cell? ⟨b, o + k, none⟩ = some (.int .i64 (t.wai.getD k 0)) := by
          have hlt := World.ownsRow.lt ho
          obtain ⟨AA, cc, e, h1, h2, h3⟩ := ho.sl.n rfl
          refine ⟨_, AA, cc, rfl, e, h1, h2, fun k hk => ?_⟩
          obtain ⟨b, o, e2, hb, hcl⟩ := h3 k hk
          refine ⟨b, o, e2, hf2 b ?_ hb, hcl⟩
          exact (hlt b (by rw [e, e2]; rfl)).1
        obtain ⟨N, A5, c5, hN, rfl, hc5, hc52, hcl⟩ := hVF
        have HCL := Lib.hid hcl
        have HN := Lib.hid hN
        have HBA := Lib.hid hba
        clear ho hon hb3 CWT hof hf1 hf2 hlf hba hrdf hcl hN
        go_wp2_with fail
        refine CSE.out.mono ?_
        rintro e w4 ⟨bn, k, t', rfl, hk5, hl4, hin4, hca4, hbl, hbt⟩
        have HL4 := Lib.hid hl4
        have HQ := Lib.hid (quiet_all hl4.ok.1 hin4 hca4)
        have HIN := Lib.hid hin4
        have HCA := Lib.hid hca4
        have HBT := Lib.hid hbt
        have hhi := inB_holder hl4.ok.1
        rw [hl4.n] at hhi
        have HBE : Hid (Below w.heap.size w w4) := by
          have hk := hl4.on.kp
          have h0 := HBA.out
          exact ⟨hk.os.trans h0.os, hk.tape.trans h0.tape, hk.output.trans h0.output, Nat.le_trans h0.size hk.size, fun b hb => (hk.block b (HF1.out b hb)).trans (h0.block b hb)⟩
        have HHI := Lib.hid hhi
        clear hl4 hin4 hca4 hbt CSE hhi
        go_wp2_with fail
        go_loop [11] (fun v11 => ∃ k : Nat, v11 = .int .i64 k ∧ k ≤ N) (fun v11 => N - (intOf v11).toNat)
        case atStart => exact ⟨0, rfl, Nat.zero_le _⟩
        case round =>
          obtain ⟨p, rfl, hp⟩ := hrel
          by_cases hpN : p < N
          · obtain ⟨b6, o6, rfl, hY6, hc6⟩ := HCL.out p hpN
            have d6 := (World.cell?_of_block (a := ⟨b6, o6 + p, none⟩) (HL4.out.on.kp.block b6 hY6)).trans hc6
            obtain ⟨a, ha, ea, hma⟩ := (wai_mem t (t.wai.getD p 0)).1 (by rw [getD_lt _ () (by rw [← HN.out]; exact hpN)]; exact List.getElem_mem _)
            rw [ea] at d6
            have han : a < n := by rw [← HLAW.out.n]; exact ha
            have hbit := bit_test1 bn a (by omega)
            rw [if_pos (HBT.out a han hma)] at hbit
            have CIN : Hid (∀ w1, Calls Try.prog 19 #[.int .i64 a, .int .i64 0, .int .i64 ((n : Int) - 1)] w1 fun e w' => e = .returned (.bool true) ∧ w1 = w') := fun w1 => by
              have := in_calls a 0 ((n : Int) - 1) w1
              rw [show inB a 0 ((n : Int) - 1) = true by unfold inB; rw [decide_eq_true (by omega), decide_eq_true (by omega)]; rfl] at this
              exact this
            have z1 : (0 : Int) ≤ (p : Int) ∧ (p : Int) < N := by omega
            have z2 : (0 : Int) ≤ (a : Int) ∧ (a : Int) ≤ 64 := by omega
            clear hc6 ea hma hY6 ha
            go_wp2_with fail
            refine (CIN.out _).mono ?_
            rintro e w5 ⟨rfl, rfl⟩
            go_wp2_with fail
            go_round
            case rel => exact ⟨p + 1, by go_num, by omega⟩
            case measure => simp [intOf]; omega
          · have hpe : p = N := by omega
            subst hpe
            have C1 : Hid (Calls Try.prog 21 #[.pointer (some ⟨T, 0, none⟩)] w4 fun e w' => (∃ A c, e = .returned (.slice A 0 c)) ∧ LawI f T n k t' w' ∧ Below w4.heap.size w4 w') := (on_waiting HL4.out.on).mono fun _ _ ⟨v, he, ho, _, hb⟩ => by
              have hs := ho.sl
              rw [HQ.out.2.2.2] at hs
              obtain ⟨A, c, e, _⟩ := hs
              exact ⟨⟨A, c, by rw [he, e]; rfl⟩, HL4.out.below hb, hb⟩
            have C2 : Hid (∀ w1, LawI f T n k t' w1 → Calls Try.prog 24 #[.pointer (some ⟨T, 0, none⟩)] w1 fun e w' => (∃ A c, e = .returned (.slice A 0 c)) ∧ LawI f T n k t' w' ∧ Below w1.heap.size w1 w') := fun w1 h1 => (on_queue h1.on h1.ok).mono fun _ _ ⟨v, he, ho, _, hb⟩ => by
              have hs := ho.sl
              rw [HQ.out.2.1] at hs
              obtain ⟨A, c, e, _⟩ := hs
              exact ⟨⟨A, c, by rw [he, e]; rfl⟩, h1.below hb, hb⟩
            have C3 : Hid (∀ w1, LawI f T n k t' w1 → Calls Try.prog 18 #[.pointer (some ⟨T, 0, none⟩)] w1 fun e w' => e = .returned (.int .i64 (-1)) ∧ LawI f T n k t' w' ∧ Below w1.heap.size w1 w') := fun w1 h1 => (on_inside h1.on).mono fun _ _ ⟨he, _, hb⟩ => ⟨by rw [he, HIN.out], h1.below hb, hb⟩
            have C4 : Hid (∀ w1, LawI f T n k t' w1 → Calls Try.prog 16 #[.pointer (some ⟨T, 0, none⟩)] w1 fun e w' => (∃ A c, e = .returned (.slice A 0 c)) ∧ LawI f T n k t' w' ∧ Below w1.heap.size w1 w') := fun w1 h1 => (on_flight h1.on h1.ok (by omega)).mono fun _ _ ⟨v, he, ho, _, hb⟩ => by
              obtain ⟨A, c, e, _⟩ := ho.rd
              rw [HCA.out] at e
              exact ⟨⟨A, c, by rw [he, e]; rfl⟩, h1.below hb, hb⟩
            have C5 : Hid (∀ w1, LawI f T n k t' w1 → Calls Try.prog 17 #[.pointer (some ⟨T, 0, none⟩)] w1 fun e w' => e = .returned (.int .i64 t'.holder) ∧ w1 = w') := fun w1 h1 => on_holder h1.on
            obtain ⟨h, hh⟩ : ∃ h, h = t'.holder := ⟨_, rfl⟩
            have hne : h ≠ -1 := by rw [hh]; exact HQ.out.2.2.1
            rw [← hh] at C5 HHI
            have C6 : Hid (∀ w1, Calls Try.prog 19 #[.int .i64 h, .int .i64 0, .int .i64 ((n : Int) - 1)] w1 fun e w' => e = .returned (.bool true) ∧ w1 = w') := fun w1 => by
              have := in_calls h 0 ((n : Int) - 1) w1
              rw [HHI.out, decide_eq_true hne] at this
              exact this
            clear hh hne
            go_wp2_with fail
            refine C1.out.mono ?_
            rintro e w5 ⟨⟨_, _, rfl⟩, h5, hb5⟩
            have H5 := Lib.hid h5
            have HB5 := Lib.hid (HBE.out.trans (hb5.mono HBE.out.size))
            clear h5 hb5 C1
            go_wp2_with fail
            refine (C2.out _ H5.out).mono ?_
            rintro e w6 ⟨⟨_, _, rfl⟩, h6, hb6⟩
            have H6 := Lib.hid h6
            have HB6 := Lib.hid (HB5.out.trans (hb6.mono HB5.out.size))
            clear h6 hb6 C2 H5
            go_wp2_with fail
            refine (C3.out _ H6.out).mono ?_
            rintro e w7 ⟨rfl, h7, hb7⟩
            have H7 := Lib.hid h7
            have HB7 := Lib.hid (HB6.out.trans (hb7.mono HB6.out.size))
            clear h7 hb7 C3 H6
            go_wp2_with fail
            refine (C4.out _ H7.out).mono ?_
            rintro e w8 ⟨⟨_, _, rfl⟩, h8, hb8⟩
            have H8 := Lib.hid h8
            have HB8 := Lib.hid (HB7.out.trans (hb8.mono HB7.out.size))
            clear h8 hb8 C4 H7
            go_wp2_with fail
            refine (C5.out _ H8.out).mono ?_
            rintro e w9 ⟨rfl, rfl⟩
            go_wp2_with fail
            refine (C6.out _).mono ?_
            rintro e w9 ⟨rfl, rfl⟩
            go_wp2_with fail
            go_ret
            exact ⟨rfl, HB8.out⟩
      · clear hcond hdone
        have CWT : Hid (Calls Try.prog 21 #[.pointer (some ⟨T, 0, none⟩)] wr fun e w' => ∃ v, e = .returned v ∧ Ow w' wr.heap.size v t.wai ∧ On w T t w' ∧ Below wr.heap.size wr w') := on_waiting HLAW.out.on
        clear hlaw
        go_wp2_with fail
        refine CWT.out.mono ?_
        rintro e w3 ⟨v, rfl, ho, hon, hb3⟩
        obtain ⟨f, hfw, hof, hf1, hf2⟩ := on_frame HLAW.out.on hb3
        subst hfw
        have hlf : LawI f T n i t f.w := ⟨hof, HLAW.out.ok, HLAW.out.n⟩
        have hba := HLAW.out.on.bel.trans (hb3.mono HLAW.out.on.bel.size)
        have hrdf : RdU f.w A xs := HA.out.below hba
        have CSE := Lib.hid (settled_calls hlf hi60 HL.out hrdf (fun b o hne e => by
          obtain ⟨b1, o1, e1, hlt, _⟩ := HA.out hne
          rw [e] at e1
          cases e1
          exact hf1 _ hlt) HLC.out hc HXS.out)
        have HF1 := Lib.hid hf1
        have hVF : ∃ N AA cc, N = t.wai.length ∧ v = .slice AA N cc ∧ N ≤ cc ∧ cc ≤ 9223372036854775807 ∧ ∀ k, k < N → ∃ b o, AA = some ⟨b, o, none⟩ ∧ f.Y b ∧ f.w.cell? ⟨b, o + k, none⟩ = some (.int .i64 (t.wai.getD k 0)) := by
          have hlt := World.ownsRow.lt ho
          obtain ⟨AA, cc, e, h1, h2, h3⟩ := ho.sl.n rfl
          refine ⟨_, AA, cc, rfl, e, h1, h2, fun k hk => ?_⟩
          obtain ⟨b, o, e2, hb, hcl⟩ := h3 k hk
          refine ⟨b, o, e2, hf2 b ?_ hb, hcl⟩
          exact (hlt b (by rw [e, e2]; rfl)).1
        obtain ⟨N, A5, c5, hN, rfl, hc5, hc52, hcl⟩ := hVF
        have HCL := Lib.hid hcl
        have HN := Lib.hid hN
        have HBA := Lib.hid hba
        clear ho hon hb3 CWT hof hf1 hf2 hlf hba hrdf hcl hN
        go_wp2_with fail
        refine CSE.out.mono ?_
        rintro e w4 ⟨bn, k, t', rfl, hk5, hl4, hin4, hca4, hbl, hbt⟩
        have HL4 := Lib.hid hl4
        have HQ := Lib.hid (quiet_all hl4.ok.1 hin4 hca4)
        have HIN := Lib.hid hin4
        have HCA := Lib.hid hca4
        have HBT := Lib.hid hbt
        have hhi := inB_holder hl4.ok.1
        rw [hl4.n] at hhi
        have HBE : Hid (Below w.heap.size w w4) := by
          have hk := hl4.on.kp
          have h0 := HBA.out
          exact ⟨hk.os.trans h0.os, hk.tape.trans h0.tape, hk.output.trans h0.output, Nat.le_trans h0.size hk.size, fun b hb => (hk.block b (HF1.out b hb)).trans (h0.block b hb)⟩
        have HHI := Lib.hid hhi
        clear hl4 hin4 hca4 hbt CSE hhi
        go_wp2_with fail
        go_loop [11] (fun v11 => ∃ k : Nat, v11 = .int .i64 k ∧ k ≤ N) (fun v11 => N - (intOf v11).toNat)
        case atStart => exact ⟨0, rfl, Nat.zero_le _⟩
        case round =>
          obtain ⟨p, rfl, hp⟩ := hrel
          by_cases hpN : p < N
          · obtain ⟨b6, o6, rfl, hY6, hc6⟩ := HCL.out p hpN
            have d6 := (World.cell?_of_block (a := ⟨b6, o6 + p, none⟩) (HL4.out.on.kp.block b6 hY6)).trans hc6
            obtain ⟨a, ha, ea, hma⟩ := (wai_mem t (t.wai.getD p 0)).1 (by rw [getD_lt _ () (by rw [← HN.out]; exact hpN)]; exact List.getElem_mem _)
            rw [ea] at d6
            have han : a < n := by rw [← HLAW.out.n]; exact ha
            have hbit := bit_test1 bn a (by omega)
            rw [if_pos (HBT.out a han hma)] at hbit
            have CIN : Hid (∀ w1, Calls Try.prog 19 #[.int .i64 a, .int .i64 0, .int .i64 ((n : Int) - 1)] w1 fun e w' => e = .returned (.bool true) ∧ w1 = w') := fun w1 => by
              have := in_calls a 0 ((n : Int) - 1) w1
              rw [show inB a 0 ((n : Int) - 1) = true by unfold inB; rw [decide_eq_true (by omega), decide_eq_true (by omega)]; rfl] at this
              exact this
            have z1 : (0 : Int) ≤ (p : Int) ∧ (p : Int) < N := by omega
            have z2 : (0 : Int) ≤ (a : Int) ∧ (a : Int) ≤ 64 := by omega
            clear hc6 ea hma hY6 ha
            go_wp2_with fail
            refine (CIN.out _).mono ?_
            rintro e w5 ⟨rfl, rfl⟩
            go_wp2_with fail
            go_round
            case rel => exact ⟨p + 1, by go_num, by omega⟩
            case measure => simp [intOf]; omega
          · have hpe : p = N := by omega
            subst hpe
            have C1 : Hid (Calls Try.prog 21 #[.pointer (some ⟨T, 0, none⟩)] w4 fun e w' => (∃ A c, e = .returned (.slice A 0 c)) ∧ LawI f T n k t' w' ∧ Below w4.heap.size w4 w') := (on_waiting HL4.out.on).mono fun _ _ ⟨v, he, ho, _, hb⟩ => by
              have hs := ho.sl
              rw [HQ.out.2.2.2] at hs
              obtain ⟨A, c, e, _⟩ := hs
              exact ⟨⟨A, c, by rw [he, e]; rfl⟩, HL4.out.below hb, hb⟩
            have C2 : Hid (∀ w1, LawI f T n k t' w1 → Calls Try.prog 24 #[.pointer (some ⟨T, 0, none⟩)] w1 fun e w' => (∃ A c, e = .returned (.slice A 0 c)) ∧ LawI f T n k t' w' ∧ Below w1.heap.size w1 w') := fun w1 h1 => (on_queue h1.on h1.ok).mono fun _ _ ⟨v, he, ho, _, hb⟩ => by
              have hs := ho.sl
              rw [HQ.out.2.1] at hs
              obtain ⟨A, c, e, _⟩ := hs
              exact ⟨⟨A, c, by rw [he, e]; rfl⟩, h1.below hb, hb⟩
            have C3 : Hid (∀ w1, LawI f T n k t' w1 → Calls Try.prog 18 #[.pointer (some ⟨T, 0, none⟩)] w1 fun e w' => e = .returned (.int .i64 (-1)) ∧ LawI f T n k t' w' ∧ Below w1.heap.size w1 w') := fun w1 h1 => (on_inside h1.on).mono fun _ _ ⟨he, _, hb⟩ => ⟨by rw [he, HIN.out], h1.below hb, hb⟩
            have C4 : Hid (∀ w1, LawI f T n k t' w1 → Calls Try.prog 16 #[.pointer (some ⟨T, 0, none⟩)] w1 fun e w' => (∃ A c, e = .returned (.slice A 0 c)) ∧ LawI f T n k t' w' ∧ Below w1.heap.size w1 w') := fun w1 h1 => (on_flight h1.on h1.ok (by omega)).mono fun _ _ ⟨v, he, ho, _, hb⟩ => by
              obtain ⟨A, c, e, _⟩ := ho.rd
              rw [HCA.out] at e
              exact ⟨⟨A, c, by rw [he, e]; rfl⟩, h1.below hb, hb⟩
            have C5 : Hid (∀ w1, LawI f T n k t' w1 → Calls Try.prog 17 #[.pointer (some ⟨T, 0, none⟩)] w1 fun e w' => e = .returned (.int .i64 t'.holder) ∧ w1 = w') := fun w1 h1 => on_holder h1.on
            obtain ⟨h, hh⟩ : ∃ h, h = t'.holder := ⟨_, rfl⟩
            have hne : h ≠ -1 := by rw [hh]; exact HQ.out.2.2.1
            rw [← hh] at C5 HHI
            have C6 : Hid (∀ w1, Calls Try.prog 19 #[.int .i64 h, .int .i64 0, .int .i64 ((n : Int) - 1)] w1 fun e w' => e = .returned (.bool true) ∧ w1 = w') := fun w1 => by
              have := in_calls h 0 ((n : Int) - 1) w1
              rw [HHI.out, decide_eq_true hne] at this
              exact this
            clear hh hne
            go_wp2_with fail
            refine C1.out.mono ?_
            rintro e w5 ⟨⟨_, _, rfl⟩, h5, hb5⟩
            have H5 := Lib.hid h5
            have HB5 := Lib.hid (HBE.out.trans (hb5.mono HBE.out.size))
            clear h5 hb5 C1
            go_wp2_with fail
            refine (C2.out _ H5.out).mono ?_
            rintro e w6 ⟨⟨_, _, rfl⟩, h6, hb6⟩
            have H6 := Lib.hid h6
            have HB6 := Lib.hid (HB5.out.trans (hb6.mono HB5.out.size))
            clear h6 hb6 C2 H5
            go_wp2_with fail
            refine (C3.out _ H6.out).mono ?_
            rintro e w7 ⟨rfl, h7, hb7⟩
            have H7 := Lib.hid h7
            have HB7 := Lib.hid (HB6.out.trans (hb7.mono HB6.out.size))
            clear h7 hb7 C3 H6
            go_wp2_with fail
            refine (C4.out _ H7.out).mono ?_
            rintro e w8 ⟨⟨_, _, rfl⟩, h8, hb8⟩
            have H8 := Lib.hid h8
            have HB8 := Lib.hid (HB7.out.trans (hb8.mono HB7.out.size))
            clear h8 hb8 C4 H7
            go_wp2_with fail
            refine (C5.out _ H8.out).mono ?_
            rintro e w9 ⟨rfl, rfl⟩
            go_wp2_with fail
            refine (C6.out _).mono ?_
            rintro e w9 ⟨rfl, rfl⟩
            go_wp2_with fail
            go_ret
            exact ⟨rfl, HB8.out⟩
end Go.Proofs.Ytahjgdikjaakbaa
