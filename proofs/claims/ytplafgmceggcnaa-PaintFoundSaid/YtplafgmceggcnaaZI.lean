/- What is proved: the law of what is found, its walk. No condition beyond those in each statement. -/
import Derived.Test.YtplafgmceggcnaaZH
import Derived.Deep.DeepCutAuto
import Derived.Deep.CutRange
namespace Go.Proofs.Ytplafgmceggcnaa
open Go.RowKit

def numsOf (bs : List Int) : List Int := if bs = [] then [0] else numsTo bs (min bs.length 14)
theorem numsOf_len (bs : List Int) : 1 ≤ (numsOf bs).length ∧ (numsOf bs).length ≤ 14 := by
  unfold numsOf
  split
  · simp
  · rename_i h
    have := List.length_pos_iff.2 h
    rw [numsTo_len _ _ (by omega)]; omega
theorem numsOf_in (bs : List Int) : inRange 3 (numsOf bs) = true := by
  unfold numsOf
  split
  · rfl
  · exact numsTo_in _ _
theorem found_ends (r : Option (List Int)) : (r = none ∧ foundR r = 5) ∨ ∃ q, r = some q ∧ foundR r = 0 := by
  cases r with
  | none => exact .inl ⟨rfl, rfl⟩
  | some q => exact .inr ⟨q, rfl, rfl⟩
theorem keepB {w1 w2 : World} (h : Below w1.heap.size w1 w2) : Hid (Below w1.heap.size w1 w2) := h

set_option maxRecDepth 100000 in
set_option maxHeartbeats 32000000 in
theorem foundlaw_calls (x k : Int) (A : Option Addr) (nb cb : Nat) (bs : List Int) (hx : 0 ≤ x ∧ x ≤ 255) (hk : 0 ≤ k ∧ k ≤ 255) (hbs : ∀ y ∈ bs, 0 ≤ y ∧ y ≤ 255) (w : World) (hn : nb = bs.length) (hA : RdU w A bs) (hl : nb ≤ cb) (hc : cb ≤ 9223372036854775807) :
    Calls Try.prog 12 #[.int .u8 x, .slice A nb cb, .int .u8 k] w fun e w' => e = .returned (.bool true) ∧ Below w.heap.size w w' := by
  obtain ⟨m, m1, m2, cb1⟩ := between_nat x 1 8 hx (by omega) (by omega) (by omega)
  obtain ⟨kh, hkh⟩ : ∃ q : Int, k / 2 = q := ⟨_, rfl⟩
  obtain ⟨size, s1, s2, cb2⟩ := between_nat kh 1 4 (by omega) (by omega) (by omega) (by omega)
  obtain ⟨terms, t1, t2, cb3⟩ := between_nat k 3 4 hk (by omega) (by omega) (by omega)
  obtain ⟨cl, hcl⟩ : ∃ q : Int, k % 2 = q := ⟨_, rfl⟩
  have cl2 : 0 ≤ cl ∧ cl ≤ 1 := by omega
  obtain ⟨np, hnp⟩ : ∃ q, q = npairs m := ⟨_, rfl⟩
  have hmm := npairs_mul m (by omega)
  rw [← hnp] at hmm
  have np28 : np ≤ 28 := by rw [hnp]; exact npairs_le m (by omega)
  have HNP := Lib.hid hnp
  have HBS := Lib.hid hbs
  have HN := Lib.hid hn
  have HA := Lib.hid hA
  have CB1 := Lib.hid cb1
  have CB2 := Lib.hid cb2
  have CB3 := Lib.hid cb3
  have HKH := Lib.hid hkh
  have HCL := Lib.hid hcl
  clear hnp hbs hn hA cb1 cb2 cb3 hcl hkh
  go_enter Try.func12, Try.ntmps12
  go_wp2_with fail
  refine (CB1.out _).mono ?_
  rintro e u1 ⟨rfl, rfl⟩
  go_wp2_with fail
  obtain ⟨W0, hW0⟩ : ∃ q, q = (w.alloc (.cells #[] 3)).alloc (.cells #[] 3) := ⟨_, rfl⟩
  have HB0 : Hid (Below w.heap.size w W0) := by rw [hW0]; exact ((Below.refl _ _).alloc (Nat.le_refl _) _).alloc (by simp) _
  rw [← hW0]
  clear hW0
  go_loopw [8, 10] (fun q v wr => ∃ i : Nat, v = .int .i64 i ∧ i ≤ np ∧ Hid (Grow W0 (pairsTo bs i) q wr)) (fun _ v _ => np - (intOf v).toNat)
  case atStart => exact ⟨0, rfl, Nat.zero_le _, Grow.new W0 _⟩
  case round =>
    obtain ⟨i, rfl, hi, HG⟩ := hrel
    by_cases hlt : i < np
    · have hgl : (pairsTo bs i).length ≤ 1000 := by rw [pairsTo_len]; omega
      have hgb := HG.out.1
      obtain ⟨Ag, ng, cg, rfl, hng⟩ : ∃ A n c, u8 = .slice (some A) n c ∧ True := by
        obtain ⟨_, A, n, c, e, _⟩ := HG.out
        exact ⟨A, n, c, e, trivial⟩
      by_cases hb : i < nb
      · have hil : i < bs.length := by have := HN.out; omega
        obtain ⟨b, o, rfl, hbl, hc1⟩ := (HA.out.below HB0.out).at i hil
        have d1 := (hgb.cell (p := ⟨b, o + i, none⟩) hbl).trans hc1
        have hy := HBS.out _ (List.getElem_mem hil)
        obtain ⟨y, hy2⟩ : ∃ y, y = bs[i] := ⟨_, rfl⟩
        have HS : Hid (pairsTo bs (i + 1) = pairsTo bs i ++ [y % 2]) := by
          show _ = _
          rw [pairsTo_succ, if_pos hil, hy2, getD_lt _ () hil]
        rw [← hy2] at d1 hy
        obtain ⟨A', n', c', w', hrun, hg⟩ := HG.out.push (y % 2) hgl
        have HRUN := Lib.hid hrun
        have HG2 := Lib.hid hg
        clear hrun hg hgl hgb hc1 hy2 hng
        go_wp2_with (at_builtin; refine wpList_app rfl (.tmp 48) (.tmp 50) 22 22 rfl rfl _ _ rfl rfl HRUN.out ?_)
        go_roundw
        case rel => exact ⟨i + 1, by go_num, by omega, by rw [HS.out]; exact HG2.out⟩
        case measure => simp [intOf]; omega
      · have HS : Hid (pairsTo bs (i + 1) = pairsTo bs i ++ [0]) := by
          show _ = _
          rw [pairsTo_succ, if_neg (by have := HN.out; omega)]
        obtain ⟨A', n', c', w', hrun, hg⟩ := HG.out.push 0 hgl
        have HRUN := Lib.hid hrun
        have HG2 := Lib.hid hg
        clear hrun hg hgl hgb hng
        go_wp2_with (at_builtin; refine wpList_app rfl (.tmp 48) (.tmp 50) 22 22 rfl rfl _ _ rfl rfl HRUN.out ?_)
        go_roundw
        case rel => exact ⟨i + 1, by go_num, by omega, by rw [HS.out]; exact HG2.out⟩
        case measure => simp [intOf]; omega
    · have hin : i = np := by omega
      have HG1 : Hid (Grow W0 (pairsTo bs np) u8 wr) := by rw [← hin]; exact HG.out
      clear HG hin
      obtain ⟨W1, hW1⟩ : ∃ q, q = wr := ⟨_, rfl⟩
      rw [← hW1] at HG1 ⊢
      clear hW1
      obtain ⟨A8, n8, c8, rfl, g1, g2, g3, g4⟩ := HG1.out.parts
      have HN8 := Lib.hid g1
      have HR8 := Lib.hid g4
      have HW1 := Lib.hid (HB0.out.trans (HG1.out.1.mono HB0.out.size))
      clear g1 g4
      go_wp2_with fail
      go_loopw [9, 12] (fun q v wr => ∃ i : Nat, v = .int .i64 i ∧ i ≤ nb ∧ i ≤ 14 ∧ Hid (Grow W1 (numsTo bs i) q wr)) (fun _ v _ => nb - (intOf v).toNat)
      case atStart => exact ⟨0, rfl, Nat.zero_le _, by omega, Grow.new W1 _⟩
      case round =>
        obtain ⟨i, rfl, hi, hi14, HG⟩ := hrel
        have hgl : (numsTo bs i).length ≤ 1000 := by rw [numsTo_len _ _ (by have := HN.out; omega)]; omega
        have hgb := HG.out.1
        obtain ⟨Ag, ng, cg, rfl, hng⟩ : ∃ A n c, u9 = .slice (some A) n c ∧ True := by
          obtain ⟨_, A, n, c, e, _⟩ := HG.out
          exact ⟨A, n, c, e, trivial⟩
        by_cases hb : i < nb ∧ i < 14
        · obtain ⟨hb1, hb2⟩ := hb
          have hil : i < bs.length := by have := HN.out; omega
          obtain ⟨b, o, rfl, hbl, hc1⟩ := (HA.out.below HW1.out).at i hil
          have d1 := (hgb.cell (p := ⟨b, o + i, none⟩) hbl).trans hc1
          have hy := HBS.out _ (List.getElem_mem hil)
          have HS := Lib.hid (numsTo_succ bs i hil)
          obtain ⟨y, hy2⟩ : ∃ y, y = bs[i] := ⟨_, rfl⟩
          rw [← hy2] at d1 hy HS
          obtain ⟨A', n', c', w', hrun, hg⟩ := HG.out.push (y % 3) hgl
          have HRUN := Lib.hid hrun
          have HG2 := Lib.hid hg
          clear hrun hg hgl hgb hc1 hy2 hng
          go_wp2_with (at_builtin; refine wpList_app rfl (.tmp 62) (.tmp 69) 22 22 rfl rfl _ _ rfl rfl HRUN.out ?_)
          go_roundw
          case rel => exact ⟨i + 1, by go_num, by omega, by omega, by rw [HS.out]; exact HG2.out⟩
          case measure => simp [intOf]; omega
        · have hin : i = min bs.length 14 := by have := HN.out; omega
          have HG2 : Hid (Grow W1 (numsTo bs (min bs.length 14)) (.slice (some Ag) ng cg) wr) := by rw [← hin]; exact HG.out
          have hng1 : ng = min bs.length 14 := by
            obtain ⟨_, A', n', c', e, hl', _⟩ := HG2.out
            cases e
            rw [hl', numsTo_len _ _ (by omega)]
          have HNG := Lib.hid hng1
          clear HG hin hgl hgb hng hng1
          obtain ⟨W2, hW2⟩ : ∃ q, q = wr := ⟨_, rfl⟩
          rw [← hW2] at HG2 ⊢
          clear hW2
          have HR82 := Lib.hid (HR8.out.below HG2.out.1)
          have HW2 := Lib.hid (HW1.out.trans (HG2.out.1.mono HW1.out.size))
          go_upto_region 11 with fail
          go_cut [59] (fun q wx => q = .bool false ∧ W2 = wx)
          case first => as_aux_lemma =>
            by_cases hb1 : i < nb
            · have hb2 : decide ((i : Int) < 14) = false := decide_eq_false (by omega)
              clear hb
              go_wp2_with fail
              go_meet
              exact ⟨rfl, rfl⟩
            · clear hb
              go_wp2_with fail
              go_meet
              exact ⟨rfl, rfl⟩
          case rest =>
          obtain ⟨rfl, rfl⟩ := hcut
          go_upto_if 73 with fail
          go_cut [9] from 74 to 74 (fun q wx => ∃ A n c, q = .slice (some A) n c ∧ Hid (n = (numsOf bs).length) ∧ n ≤ c ∧ c ≤ 9223372036854775807 ∧ Hid (Rd wx (some A) (numsOf bs)) ∧ Hid (Below W2.heap.size W2 wx))
          case first => as_aux_lemma =>
            rcases Nat.eq_zero_or_pos nb with h0 | h0
            · have hq : ((ng : Int) == 0) = true := by rw [beq_iff_eq]; have := HNG.out; have := HN.out; omega
              have HE : Hid (numsOf bs = [0]) := by show _ = _; unfold numsOf; rw [if_pos (List.eq_nil_of_length_eq_zero (by have := HN.out; omega))]
              clear h0
              go_wp2_with fail
              go_meet
              exact ⟨_, _, _, rfl, by rw [HE.out]; rfl, by decide, by decide, by rw [HE.out]; exact rd_one W2 0 _ rfl, (Below.refl _ _).alloc (Nat.le_refl _) _⟩
            · have hq : ((ng : Int) == 0) = false := by rw [beq_eq_false_iff_ne]; have := HNG.out; have := HN.out; omega
              have HE : Hid (numsOf bs = numsTo bs (min bs.length 14)) := by
                show _ = _; unfold numsOf; rw [if_neg]; intro e; have := HN.out; rw [e] at this; simp at this; omega
              obtain ⟨A9, n9, c9, e9, g1, g2, g3, g4⟩ := HG2.out.parts
              cases e9
              have HGG := Lib.hid g1
              have HRR := Lib.hid g4
              clear g1 g4 h0
              go_wp2_with fail
              go_meet
              exact ⟨_, _, _, rfl, by rw [HE.out]; exact HGG.out, g2, g3, by rw [HE.out]; exact HRR.out, Below.refl _ _⟩
          case rest =>
            obtain ⟨A9, n9, c9, rfl, HN9, g2', g3', HR9, HB9⟩ := hcut
            have HR83 := Lib.hid (HR82.out.below HB9.out)
            have HW := Lib.hid (HW2.out.trans (HB9.out.mono HW2.out.size))
            have hkh := HKH.out
            have hcl := HCL.out
            go_wp2_with fail
            refine (CB2.out _).mono ?_
            rintro e u1 ⟨rfl, rfl⟩
            go_wp2_with fail
            refine (CB3.out _).mono ?_
            rintro e u1 ⟨rfl, rfl⟩
            have HCR := Lib.hid (CliqueR_ok (n := m) (color := cl) (k := size) (cs := pairsTo bs np) (by omega) (by rw [pairsTo_len, pairsTo_in, HNP.out]; simp))
            have HSR := Lib.hid (SumR_ok (numsOf_len bs).1 (numsOf_len bs).2 (numsOf_in bs))
            have HPR := Lib.hid (ProgR_ok (cs := numsOf bs) (k := terms) (stepsB_iff.2 (by omega)) (numsOf_len bs).1 (by have := (numsOf_len bs).2; omega) (numsOf_in bs))
            obtain ⟨rc, hrc⟩ : ∃ q, q = cliqueF (okP (pairsTo bs np) m cl) m size [] := ⟨_, rfl⟩
            obtain ⟨rs, hrs⟩ : ∃ q, q = sumF (numsOf bs) := ⟨_, rfl⟩
            obtain ⟨rp, hrp⟩ : ∃ q, q = progF (numsOf bs) (terms : Int).toNat := ⟨_, rfl⟩
            have hec := found_ends rc
            have hes := found_ends rs
            have hep := found_ends rp
            rw [← hrc] at HCR
            rw [← hrs] at HSR
            rw [← hrp] at HPR
            obtain ⟨ec, hec2⟩ : ∃ q, q = foundR rc := ⟨_, rfl⟩
            obtain ⟨es, hes2⟩ : ∃ q, q = foundR rs := ⟨_, rfl⟩
            obtain ⟨ep, hep2⟩ : ∃ q, q = foundR rp := ⟨_, rfl⟩
            rw [← hec2] at HCR hec
            rw [← hes2] at HSR hes
            rw [← hep2] at HPR hep
            have HRC := Lib.hid hrc
            have HRS := Lib.hid hrs
            have HRP := Lib.hid hrp
            have HEC := Lib.hid hec
            have HES := Lib.hid hes
            have HEP := Lib.hid hep
            clear hrc hrs hrp hec hes hep hec2 hes2 hep2 hkh hcl hmm hb
            go_wp2_with fail
            refine (Clique_calls m cl size (some A8) n8 c8 (pairsTo bs np) _ HN8.out HR83.out g2 g3).mono ?_
            rw [HCR.out]
            rintro e w3 ⟨v3, rfl, ho, hB⟩
            have HO3 := Lib.hid ho
            have HR83 := Lib.hid (HR83.out.below hB)
            have HR9 := Lib.hid (HR9.out.below hB)
            have HW := Lib.hid (HW.out.trans (hB.mono HW.out.size))
            clear ho hB
            go_wp2_with fail
            refine (Sum_calls (some A9) n9 c9 (numsOf bs) _ HN9.out HR9.out g2' g3').mono ?_
            rw [HSR.out]
            rintro e w4 ⟨v4, rfl, ho, hB⟩
            have HO4 := Lib.hid ho
            have HO3 := Lib.hid (HO3.out.below hB)
            have HR83 := Lib.hid (HR83.out.below hB)
            have HR9 := Lib.hid (HR9.out.below hB)
            have HW := Lib.hid (HW.out.trans (hB.mono HW.out.size))
            clear ho hB
            go_wp2_with fail
            refine (Progression_calls (some A9) n9 c9 (numsOf bs) terms _ HN9.out HR9.out g2' g3').mono ?_
            rw [HPR.out]
            rintro e w5 ⟨v5, rfl, ho, hB⟩
            have HO5 := Lib.hid ho
            have HO4 := Lib.hid (HO4.out.below hB)
            have HO3 := Lib.hid (HO3.out.below hB)
            have HR83 := Lib.hid (HR83.out.below hB)
            have HR9 := Lib.hid (HR9.out.below hB)
            have HW := Lib.hid (HW.out.trans (hB.mono HW.out.size))
            clear ho hB
            clear HB9 HW2 HW1 HN HA HBS CB1 CB2 CB3
            go_upto_if 103 with fail
            go_cut [22, 23] from 104 to 138 (fun _ _ wx => Hid (Below w5.heap.size w5 wx))
            case first => as_aux_lemma =>
              rcases HEC.out with ⟨hq, rfl⟩ | ⟨r, hq, rfl⟩
              · clear hq
                go_wp2_with fail
                go_meet
                exact Below.refl _ _
              · have hf := HRC.out.symm.trans hq
                obtain ⟨vs, hr, hvl, hpw, hvm, hcol⟩ := clique_found hf
                have ho := HO3.out
                rw [hq] at ho
                obtain ⟨⟨a3, n3, c3, rfl⟩, hs⟩ := ho
                obtain ⟨a3', n3', c3', e3', k1, k2, k3, k4⟩ := hs.parts
                cases e3'
                rw [hr] at k1 k4
                have hn3 : n3 = size := by rw [k1, List.length_map, hvl]
                have HV : Hid (n3 = vs.length) := by show _ = _; rw [k1, List.length_map]
                have HR3 := Lib.hid k4
                have HPW := Lib.hid hpw
                have HVM := Lib.hid hvm
                have HCOL := Lib.hid hcol
                clear hf hr hvl hpw hvm hcol hs k1 k4 hq
                subst hn3
                obtain ⟨bp, op, hAp⟩ : ∃ bp op, A8 = ⟨bp, op, none⟩ ∨ np = 0 := by
                  by_cases h0 : np = 0
                  · exact ⟨0, 0, .inr h0⟩
                  · obtain ⟨b, o, e, _⟩ := HR83.out (by intro e; have := congrArg List.length e; rw [pairsTo_len] at this; exact h0 this)
                    cases e
                    exact ⟨b, o, .inl rfl⟩
                have CR := Lib.hid (rising_calls m (by omega) (some a3) n3 c3 vs w5 HV.out HR3.out k2 k3 HPW.out HVM.out)
                go_wp2_with fail
                refine CR.out.mono ?_
                rintro e w6 ⟨rfl, hB6⟩
                have HB6 := Lib.hid hB6
                have HR3 := Lib.hid (HR3.out.below hB6)
                have HR83 := Lib.hid (HR83.out.below hB6)
                clear hB6 CR
                go_wp2_with fail
                go_loopw [22] (fun q wr => ∃ i : Nat, q = .int .i64 i ∧ i ≤ n3 ∧ Hid (Below w6.heap.size w6 wr)) (fun q _ => n3 - (intOf q).toNat)
                case atStart => exact ⟨0, rfl, Nat.zero_le _, Below.refl _ _⟩
                case round =>
                  obtain ⟨i, rfl, hi, HBi⟩ := hrel
                  by_cases hlt : i < n3
                  · go_wp2_with fail
                    go_loopw [23] (fun q wr => ∃ j : Nat, q = .int .i64 j ∧ j ≤ i ∧ Hid (Below w6.heap.size w6 wr)) (fun q _ => i - (intOf q).toNat)
                    case atStart => exact ⟨0, rfl, Nat.zero_le _, HBi.out⟩
                    case round =>
                      obtain ⟨j, rfl, hj, HBj⟩ := hrel
                      by_cases hlt2 : j < i
                      · have hil : i < vs.length := by have := HV.out; omega
                        have hjl : j < vs.length := by omega
                        obtain ⟨b3, o3, e3, hb3, hc3⟩ := (HR3.out.below HBj.out).at i (by simpa using hil)
                        cases e3
                        have hc4 := (HR3.out.below HBj.out).at2 j (by simpa using hjl)
                        rw [List.getElem_map] at hc3 hc4
                        obtain ⟨x', hx'⟩ : ∃ q, q = vs[i] := ⟨_, rfl⟩
                        obtain ⟨y', hy'⟩ : ∃ q, q = vs[j] := ⟨_, rfl⟩
                        have hyx : y' < x' := by rw [hx', hy']; exact List.pairwise_iff_getElem.1 HPW.out j i hjl hil hlt2
                        have hcol : colN m (pairsTo bs np) y' x' = cl := by rw [hx', hy']; exact List.pairwise_iff_getElem.1 HCOL.out j i hjl hil hlt2
                        have hxm : x' < m := by rw [hx']; exact HVM.out _ (List.getElem_mem hil)
                        rw [← hx'] at hc3
                        rw [← hy'] at hc4
                        rcases hAp with rfl | h0
                        case' inr =>
                          exfalso
                          have : ∀ n : Nat, 2 ≤ n → n ≤ 8 → npairs n ≠ 0 := by intro n h1 h2; unfold npairs; have : 2 * 1 ≤ n * (n - 1) := Nat.mul_le_mul h1 (by omega); omega
                          exact this m (by omega) (by omega) (HNP.out.symm.trans h0)
                        obtain ⟨z1, z2, z3⟩ := place_cell (n := m) (by omega) (xs := pairsTo bs np) (by rw [pairsTo_len, HNP.out]) hyx hxm (HR83.out.below HBj.out)
                        rw [hcol] at z3
                        have z4 : placeZ m y' x' < (n8 : Int) := by rw [HN8.out]; exact z2
                        have CP := Lib.hid (fun (u : World) (q : Nat) => Calls.quiet_of_same (w := u) (n := q) ((pair_calls m y' x' _ (by omega) (by omega) (by omega) (by omega)).mono fun e w' h => ⟨h.1, h.2.symm⟩))
                        obtain ⟨p, hp⟩ := Int.eq_ofNat_of_zero_le z1
                        rw [hp] at z1 z3 z4 CP
                        rw [Int.toNat_natCast] at z3
                        clear hx' hy' hcol z2 hp
                        have b1 : (0 : Int) ≤ i ∧ (i : Int) < n3 := by omega
                        have b2 : (0 : Int) ≤ j ∧ (j : Int) < n3 := by omega
                        have b4 : (0 : Int) ≤ p ∧ (p : Int) < n8 := by omega
                        have wi : IntKind.i64.wrap (i : Int) = i := IntWalk.i64_in _ (by omega)
                        have wj : IntKind.i64.wrap (j : Int) = j := IntWalk.i64_in _ (by omega)
                        have wp : IntKind.i64.wrap (p : Int) = p := IntWalk.i64_in _ (by omega)
                        go_wp2_with fail
                        go_quiet ((go_at_call 34; exact CP.out _ _))
                        clear wi wj wp b1 b2 b4 z1 z3 z4 hc3 hc4
                        go_wp2_with fail
                        go_roundw
                        case rel => exact ⟨j + 1, by go_num, by omega, below_drewN HBj.out _⟩
                        case measure => simp [intOf]; omega
                      · go_wp2_with fail
                        go_roundw
                        case rel => exact ⟨i + 1, by go_num, by omega, HBj.out⟩
                        case measure => simp [intOf]; omega
                  · go_wp2_with fail
                    go_meet
                    exact HB6.out.trans (HBi.out.mono HB6.out.size)
            case rest => as_aux_lemma =>
              have HR9 := Lib.hid (HR9.out.below hcut)
              have HO4 := Lib.hid (HO4.out.below hcut)
              have HO5 := Lib.hid (HO5.out.below hcut)
              have HW := Lib.hid (HW.out.trans (Below.mono hcut HW.out.size))
              clear hcut HO3 HR83 HR82 HCR HB0 HG1 HG2
              go_upto_region 31 with fail
              go_cut [218] from 139 to 217 (fun q wx => q = .bool false ∧ Hid (Below wc.heap.size wc wx))
              case first => as_aux_lemma =>
                rcases HES.out with ⟨hq, rfl⟩ | ⟨r, hq, rfl⟩
                · clear hq
                  refine wp_region_quiet_lit (by kernel_rfl) (by kernel_rfl) ?_
                  dsimp only [List.append]
                  repeat (go_big_quiet_step (fail))
                  refine wpQuiet_nil ?_
                  intro _ hw'
                  obtain ⟨nq, hw''⟩ := hw'
                  subst hw''
                  go_wp2_with fail
                  go_meet
                  exact ⟨rfl, below_drewN (Below.refl _ _) _⟩
                · obtain ⟨X, Y, hr, x1, xy, xyl, q1, q2⟩ := sumF_some_at (HRS.out.symm.trans hq)
                  obtain ⟨x', rfl⟩ : ∃ q, X = q + 1 := ⟨X - 1, by omega⟩
                  obtain ⟨y', rfl⟩ : ∃ q, Y = q + 1 := ⟨Y - 1, by omega⟩
                  have ho := HO4.out
                  rw [hq] at ho
                  obtain ⟨⟨a4, n4, c4, rfl⟩, hs⟩ := ho
                  obtain ⟨a4', n4', c4', e4', k1, k2, k3, k4⟩ := hs.parts
                  cases e4'
                  rw [hr] at k1 k4
                  have k1' : n4 = 2 := by simpa using k1
                  subst k1'
                  obtain ⟨b4, o4, e4, hb4, hc1⟩ := k4.at 0 (by simp)
                  cases e4
                  have hc2 := k4.at2 1 (by simp)
                  have d1 : wc.cell? ⟨b4, o4, none⟩ = some (.int .i64 ((x' : Int) + 1)) := by simpa using hc1
                  have d2 : wc.cell? ⟨b4, o4 + 1, none⟩ = some (.int .i64 ((y' : Int) + 1)) := by simpa using hc2
                  have lx : x' < (numsOf bs).length := by omega
                  have ly : y' < (numsOf bs).length := by omega
                  have lz : x' + y' + 1 < (numsOf bs).length := by omega
                  obtain ⟨b9, o9, e9, hb9, hc9⟩ := HR9.out.at x' lx
                  cases e9
                  have hc10 := HR9.out.at2 y' ly
                  have hc11 := HR9.out.at2 (x' + y' + 1) lz
                  obtain ⟨q, hq0⟩ : ∃ q, q = (numsOf bs)[x'] := ⟨_, rfl⟩
                  have g2 : (numsOf bs)[y'] = q := by
                    have := q1
                    rw [show x' + 1 - 1 = x' by omega, show y' + 1 - 1 = y' by omega, getD_lt _ () lx, getD_lt _ () ly] at this
                    rw [← this, hq0]
                  have g3 : (numsOf bs)[x' + y' + 1] = q := by
                    have := q2
                    rw [show x' + 1 - 1 = x' by omega, show x' + 1 + (y' + 1) - 1 = x' + y' + 1 by omega, getD_lt _ () lx, getD_lt _ () lz] at this
                    rw [← this, hq0]
                  rw [← hq0] at hc9
                  rw [g2] at hc10
                  rw [g3] at hc11
                  have hn9 := HN9.out
                  have b1 : (0 : Int) ≤ x' ∧ (x' : Int) < n9 := by omega
                  have b2 : (0 : Int) ≤ y' ∧ (y' : Int) < n9 := by omega
                  have b3 : (0 : Int) ≤ ((x' + y' + 1 : Nat) : Int) ∧ ((x' + y' + 1 : Nat) : Int) < n9 := by omega
                  have w1 : IntKind.i64.wrap (x' : Int) = x' := IntWalk.i64_in _ (by have := (numsOf_len bs).2; omega)
                  have w2 : IntKind.i64.wrap (y' : Int) = y' := IntWalk.i64_in _ (by have := (numsOf_len bs).2; omega)
                  have w3 : IntKind.i64.wrap ((x' : Int) + 1 + ((y' : Int) + 1)) = (x' : Int) + 1 + ((y' : Int) + 1) := IntWalk.i64_in _ (by have := (numsOf_len bs).2; omega)
                  have w4 : IntKind.i64.wrap ((x' : Int) + 1 + ((y' : Int) + 1) - 1) = ((x' + y' + 1 : Nat) : Int) := by rw [IntWalk.i64_in _ (by have := (numsOf_len bs).2; omega)]; omega
                  have f1 : decide ((x' : Int) + 1 < 1) = false := decide_eq_false (by omega)
                  have f2 : decide (y' < x') = false := decide_eq_false (by omega)
                  have f3 : decide ((n9 : Int) < (y' : Int) + 1) = false := decide_eq_false (by omega)
                  have f4 : decide ((n9 : Int) < (x' : Int) + 1 + ((y' : Int) + 1)) = false := decide_eq_false (by omega)
                  clear hc1 hc2 hn9 g2 g3 q1 q2 k1 k4 hs hr hq hq0
                  refine wp_region_quiet_lit (by kernel_rfl) (by kernel_rfl) ?_
                  dsimp only [List.append]
                  repeat (go_big_quiet_step (fail))
                  refine wpQuiet_nil ?_
                  intro _ hw'
                  obtain ⟨nq, hw''⟩ := hw'
                  subst hw''
                  clear w1 w2 w3 w4 f1 f2 f3 f4 b1 b2 b3 d1 d2 hc9 hc10 hc11
                  go_wp2_with fail
                  go_meet
                  exact ⟨rfl, below_drewN (Below.refl _ _) _⟩
              case rest => as_aux_lemma =>
                obtain ⟨rfl, hcut⟩ := hcut
                have HR9 := Lib.hid (HR9.out.below hcut)
                have HO5 := Lib.hid (HO5.out.below hcut)
                have HW := Lib.hid (HW.out.trans (Below.mono hcut HW.out.size))
                obtain ⟨W7, hW7⟩ : ∃ q, q = wc := ⟨_, rfl⟩
                rw [← hW7] at hcut HR9 HO5 HW ⊢
                clear hW7 hcut HO4 HSR HRS
                go_upto_if 220 with fail
                go_cut [24] from 221 to 282 (fun _ wx => Hid (Below W7.heap.size W7 wx))
                case first => as_aux_lemma =>
                  rcases HEP.out with ⟨hq, rfl⟩ | ⟨r, hq, rfl⟩
                  · clear hq
                    go_wp2_with fail
                    go_meet
                    exact Below.refl _ _
                  · rw [Int.toNat_natCast] at HRP
                    obtain ⟨a, d, hr, a1, dd1, al, heq⟩ := progF_some_at (k := terms) (by omega) (HRP.out.symm.trans hq)
                    obtain ⟨a', rfl⟩ : ∃ q, a = q + 1 := ⟨a - 1, by omega⟩
                    obtain ⟨d', rfl⟩ : ∃ q, d = q + 1 := ⟨d - 1, by omega⟩
                    have ho := HO5.out
                    rw [hq] at ho
                    obtain ⟨⟨a5, n5, c5, rfl⟩, hs⟩ := ho
                    obtain ⟨a5', n5', c5', e5', k1, k2, k3, k4⟩ := hs.parts
                    cases e5'
                    rw [hr] at k1 k4
                    have k1' : n5 = 2 := by simpa using k1
                    subst k1'
                    obtain ⟨b5, o5, e5, hb5, hc1⟩ := k4.at 0 (by simp)
                    cases e5
                    have hc2 := k4.at2 1 (by simp)
                    have d1 : W7.cell? ⟨b5, o5, none⟩ = some (.int .i64 ((a' : Int) + 1)) := by simpa using hc1
                    have d2 : W7.cell? ⟨b5, o5 + 1, none⟩ = some (.int .i64 ((d' : Int) + 1)) := by simpa using hc2
                    have hb5 : b5 < W7.heap.size := hb5
                    have D1 := Lib.hid d1
                    have D2 := Lib.hid d2
                    have hn9 := HN9.out
                    have hn14 := (numsOf_len bs).2
                    have HEQ := Lib.hid heq
                    have HAL := Lib.hid al
                    obtain ⟨P, hP⟩ : ∃ P : Nat, P = (terms - 1) * (d' + 1) := ⟨_, rfl⟩
                    have hPd : d' + 1 ≤ P := by rw [hP]; exact Nat.le_mul_of_pos_left _ (by omega)
                    rw [← hP] at al
                    have e2 : ((terms : Int) - 1) * ((d' : Int) + 1) = P := by
                      rw [hP, Int.natCast_mul]; congr 1; omega
                    clear hP
                    have e2' := e2
                    rcases (show terms = 3 ∨ terms = 4 by omega) with ht | ht
                    all_goals
                      obtain ⟨T, hT⟩ : ∃ T : Int, (terms : Int) - 1 = T := ⟨_, rfl⟩
                      rw [hT] at e2
                      have hT2 : 1 ≤ T ∧ T ≤ 3 := by omega
                      have w1 : IntKind.i64.wrap ((terms : Int) - 1) = T := by rw [IntWalk.i64_in _ (by omega)]; exact hT
                      have w2 : IntKind.i64.wrap (T * ((d' : Int) + 1)) = P := by rw [e2]; exact IntWalk.i64_in _ (by omega)
                      have w3 : IntKind.i64.wrap ((a' : Int) + 1 + P) = (a' : Int) + 1 + P := IntWalk.i64_in _ (by omega)
                      have f1 : decide ((a' : Int) + 1 < 1) = false := decide_eq_false (by omega)
                      have f2 : decide ((d' : Int) + 1 < 1) = false := decide_eq_false (by omega)
                      have f3 : decide ((20 : Int) < (d' : Int) + 1) = false := decide_eq_false (by omega)
                      have f4 : decide ((n9 : Int) < (a' : Int) + 1 + P) = false := decide_eq_false (by omega)
                      have HT := Lib.hid ht
                      clear hc1 hc2 k1 k4 hs hr hq ht e2' hn9
                      go_wp2_with fail
                      go_quiet (fail)
                      clear w1 w2 w3 f1 f2 f3 f4 hT e2 d1 d2 hT2
                      go_wp2_with fail
                      go_loopw [24] (fun q wr => ∃ i : Nat, q = .int .i64 i ∧ 1 ≤ i ∧ i ≤ terms ∧ Hid (Below W7.heap.size W7 wr)) (fun q _ => terms - (intOf q).toNat)
                      case atStart => exact ⟨1, rfl, Nat.le_refl _, by omega, below_drewN (Below.refl _ _) _⟩
                      case round =>
                        obtain ⟨i, rfl, hi1, hi, HBi⟩ := hrel
                        by_cases hlt : i < terms
                        · have lz0 : a' + i * (d' + 1) < (numsOf bs).length := by
                            have : i * (d' + 1) ≤ (terms - 1) * (d' + 1) := Nat.mul_le_mul_right _ (by omega)
                            have := HAL.out
                            omega
                          obtain ⟨Q, hQ⟩ : ∃ Q : Nat, Q = i * (d' + 1) := ⟨_, rfl⟩
                          have hEQ := HEQ.out i hlt
                          rw [← hQ] at lz0 hEQ
                          have e3 : (i : Int) * ((d' : Int) + 1) = Q := by rw [hQ, Int.natCast_mul]; congr 1
                          have lx : a' < (numsOf bs).length := by omega
                          rw [show a' + 1 + Q - 1 = a' + Q by omega, show a' + 1 - 1 = a' by omega, getD_lt _ () lz0, getD_lt _ () lx] at hEQ
                          obtain ⟨b9, o9, e9, hb9, hc9⟩ := (HR9.out.below HBi.out).at a' lx
                          cases e9
                          have hc10 := (HR9.out.below HBi.out).at2 (a' + Q) lz0
                          rw [hEQ] at hc10
                          obtain ⟨q, hq0⟩ : ∃ q, q = (numsOf bs)[a'] := ⟨_, rfl⟩
                          rw [← hq0] at hc9 hc10
                          have d1 := (HBi.out.cell (p := ⟨b5, o5, none⟩) hb5).trans D1.out
                          have d2 := (HBi.out.cell (p := ⟨b5, o5 + 1, none⟩) hb5).trans D2.out
                          have hn9 := HN9.out
                          clear hq0 hEQ hQ
                          have b1 : (0 : Int) ≤ a' ∧ (a' : Int) < n9 := by omega
                          have b2 : (0 : Int) ≤ ((a' + Q : Nat) : Int) ∧ ((a' + Q : Nat) : Int) < n9 := by omega
                          have w1 : IntKind.i64.wrap (a' : Int) = a' := IntWalk.i64_in _ (by omega)
                          have w2 : IntKind.i64.wrap ((i : Int) * ((d' : Int) + 1)) = Q := by rw [e3]; exact IntWalk.i64_in _ (by omega)
                          have w3 : IntKind.i64.wrap ((a' : Int) + 1 + Q) = (a' : Int) + 1 + Q := IntWalk.i64_in _ (by omega)
                          have w4 : IntKind.i64.wrap ((a' : Int) + 1 + Q - 1) = ((a' + Q : Nat) : Int) := by rw [IntWalk.i64_in _ (by omega)]; omega
                          clear e3 hn9
                          go_wp2_with fail
                          go_quiet (fail)
                          clear w1 w2 w3 w4 b1 b2 d1 d2 hc9 hc10
                          go_wp2_with fail
                          go_roundw
                          case rel => exact ⟨i + 1, by go_num, by omega, by omega, below_drewN HBi.out _⟩
                          case measure => simp [intOf]; omega
                        · go_wp2_with fail
                          go_meet
                          exact HBi.out
                case rest => as_aux_lemma =>
                  have HW := Lib.hid (HW.out.trans (Below.mono hcut HW.out.size))
                  clear hcut HR9 HO5 HPR HRP
                  rcases HEC.out with ⟨_, rfl⟩ | ⟨_, _, rfl⟩ <;> rcases HES.out with ⟨_, rfl⟩ | ⟨_, _, rfl⟩ <;> rcases HEP.out with ⟨_, rfl⟩ | ⟨_, _, rfl⟩
                  all_goals
                    clear HEC HES HEP
                    go_wp2_with fail
                    refine (lives_calls _).mono ?_
                    rintro e x9 ⟨rfl, hB⟩
                    have HX9 := Lib.hid (HW.out.trans (hB.mono HW.out.size))
                    clear hB
                    go_wp2_with fail
                    go_ret
                    exact ⟨rfl, HX9.out⟩
end Go.Proofs.Ytplafgmceggcnaa
