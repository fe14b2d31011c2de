/- What is proved: RopeExclusion. No condition beyond those in each statement. -/
import Derived.Test.YtahjgdikjaakbaaZB
namespace Go.Proofs.Ytahjgdikjaakbaa
open Go.RowKit

theorem inB_holder {t : TS} (I : Inv t) : inB t.holder 0 ((t.n : Int) - 1) = decide (t.holder ≠ -1) := by
  have hn := I.hn
  unfold inB
  rcases I.hh with h | ⟨h, e, hl⟩
  · rw [h]; rfl
  · rw [e, decide_eq_true (by omega), decide_eq_true (by omega), decide_eq_true (by omega)]; rfl
theorem hasB_false {xs : List Int} {v : Int} (h : v ∉ xs) : (xs.any fun u => u == v) = false := by
  rw [List.any_eq_false]
  intro u hu e
  have : u = v := by simpa using e
  subst this
  exact h hu
theorem excl_facts {t : TS} (I : Inv t) : (t.insI = -1 ∨ t.insI = t.holder) ∧ (t.wai.any fun u => u == t.insI) = false ∧ (t.wai.any fun u => u == t.holder) = false := by
  have hn := I.hn
  refine ⟨?_, hasB_false fun h => ?_, hasB_false fun h => ?_⟩
  · rcases insI_cases I with ⟨h, _⟩ | ⟨a, _, h1, _, h2⟩
    · exact .inl h
    · exact .inr (by rw [h1, h2])
  · obtain ⟨a, ha, e, hm⟩ := (wai_mem t _).1 h
    rcases insI_cases I with ⟨h, _⟩ | ⟨b, _, h1, h3, h2⟩
    · omega
    · have : a = b := by omega
      subst this
      rw [hm] at h3; cases h3
  · obtain ⟨a, ha, e, hm⟩ := (wai_mem t _).1 h
    exact I.hw a ha hm e
theorem hasV {w : World} {v : Value} {xs : List Int} (h : Sl w v xs) (x : Int) : Calls Try.prog 20 #[v, .int .i64 x] w fun e w' => e = .returned (.bool (xs.any fun u => u == x)) ∧ w = w' := by
  obtain ⟨A, c, rfl, h1, h2, _, h3⟩ := h
  exact has_calls A _ c xs x w rfl h3 h1 h2
theorem tokC_take {l : List Cal} {k : Nat} (h : k < l.length) : tokC (l.take (k + 1)) = tokC (l.take k) + (if l[k].2.2.isTok = true then 1 else 0) := by
  rw [List.take_succ_eq_append_getElem h, tokC_app]
  congr 1
  unfold tokC
  rw [List.countP_singleton]
def ExI (w : World) (T n : Nat) (v7 : Value) (wr : World) : Prop := ∃ (i : Nat) (t : TS), v7 = .int .i64 i ∧ LawI w T n i t wr
def ExJ (l : List Cal) (v8 v10 : Value) : Prop := ∃ k : Nat, v10 = .int .i64 k ∧ k ≤ l.length ∧ v8 = .int .i64 (tokC (l.take k))
set_option maxRecDepth 100000 in
set_option maxHeartbeats 8000000 in
theorem exclusion_calls (x y : Int) (A : Option Addr) (L c : Nat) (xs : List Int) (w : World) (hx : 0 ≤ x ∧ x ≤ 255) (hy : 0 ≤ y ∧ y ≤ 255) (hL : L = xs.length) (hA : RdU w A xs) (_hl : L ≤ c) (hc : c ≤ 9223372036854775807) (hxs : ∀ b ∈ xs, 0 ≤ b ∧ b ≤ 255) :
    Calls Try.prog 3 #[.agg #[.int .u8 x, .int .u8 y], .slice A L c] w fun e w' => e = .returned (.bool true) ∧ Below w.heap.size w w' := by
  obtain ⟨n, hn⟩ : ∃ n, n = mdN x := ⟨_, rfl⟩
  have CM : Hid (Calls Try.prog 13 #[.agg #[.int .u8 x, .int .u8 y]] (w.alloc (.cells #[.int .u8 x, .int .u8 y] 22)) fun e w' => ∃ T, e = .returned (.tuple #[.pointer (some ⟨T, 0, none⟩), .int .i64 n]) ∧ On w T (mdT x y) w') := by rw [hn]; exact tmade_calls w _ ((Below.refl _ _).alloc (Nat.le_refl _) _) x y hx hy
  have hn6 : 1 ≤ n ∧ n ≤ 6 := by rw [hn]; exact (md_ok x y).1
  have CL := Lib.hid (fun w1 => lives_calls w1)
  have HA := Lib.hid hA
  have HL := Lib.hid hL
  have HXS := Lib.hid hxs
  have HM : Hid (Ok (mdT x y) 0 ∧ (mdT x y).n = n) := ⟨mdT_ok x y, hn.symm⟩
  have hLc : (L : Int) ≤ 9223372036854775807 := by omega
  clear hA hL hxs hn
  go_enter Try.func3, Try.ntmps3
  go_wp2_with fail
  refine CM.out.mono ?_
  rintro e w1 ⟨T, rfl, ho⟩
  have HO := Lib.hid ho
  clear ho CM
  go_wp2_with fail
  refine (CL.out _).mono ?_
  rintro e w2 ⟨rfl, hb⟩
  have HO2 := Lib.hid (HO.out.below hb)
  clear hb CL HO
  go_wp2_with fail
  go_loopw [7] (fun v7 wr => ExI w T n v7 wr) (fun v7 _ => L - (intOf v7).toNat)
  case atStart => exact ⟨0, mdT x y, rfl, HO2.out, HM.out.1, HM.out.2⟩
  case round =>
    obtain ⟨i, t, rfl, hlaw⟩ := hrel
    have HLAW := Lib.hid hlaw
    by_cases hcond : i < L ∧ i < 150
    · obtain ⟨h1, h2⟩ := hcond
      have hil : i < xs.length := by have := HL.out; omega
      obtain ⟨b, o, rfl, hb, hcell⟩ := HA.out.at i hil
      have d1 := (hlaw.on.bel.cell (p := ⟨b, o + i, none⟩) hb).trans hcell
      have hxi := HXS.out xs[i] (List.getElem_mem hil)
      obtain ⟨xi, hxi2⟩ : ∃ xi, xi = xs[i] := ⟨_, rfl⟩
      rw [← hxi2] at d1 hxi
      have CA := Lib.hid (hlaw.act (by omega) xi hxi)
      have b1 : (0 : Int) ≤ i ∧ (i : Int) < L := by omega
      obtain ⟨r, hr⟩ : ∃ r, r = t.actB xi := ⟨_, rfl⟩
      rw [← hr] at CA
      clear hlaw hcell hb hxi2 hxi hr
      go_wp2_with fail
      refine CA.out.mono ?_
      rintro e w3 ⟨rfl, hlaw⟩
      obtain ⟨t', ht'⟩ : ∃ t', t' = t.act xi := ⟨_, rfl⟩
      rw [← ht'] at hlaw
      have CF := Lib.hid (on_flight hlaw.on hlaw.ok (by omega))
      have HLW := Lib.hid hlaw
      clear hlaw CA ht' d1
      go_wp2_with fail
      refine CF.out.mono ?_
      rintro e w4 ⟨v, rfl, ho, hon, hb4⟩
      have HL4 := Lib.hid (HLW.out.below hb4)
      obtain ⟨l, hl⟩ : ∃ l, l = t'.cals := ⟨_, rfl⟩
      obtain ⟨F, cf, rfl, hlc, hcm, _, hrd, _⟩ := ho.rd
      have hone := one_token HL4.out.ok.1
      rw [← hl] at hlc hrd hone
      have hll : l.length ≤ 60000 := by
        rw [hl, cals_len]
        have h5 := HL4.out.ok.2.s0
        have h6 := HL4.out.ok.2.tt
        omega
      obtain ⟨M, hM⟩ : ∃ M, M = l.length := ⟨_, rfl⟩
      have HRD := Lib.hid hrd
      have HONE := Lib.hid hone
      rw [← hl]
      rw [← hM] at hlc hll ⊢
      have HMM := Lib.hid hM
      clear ho hon hb4 hrd hone hl hM CF
      go_wp2_with fail
      go_loop [8, 10] (fun v8 v10 => ExJ l v8 v10) (fun _ v10 => M - (intOf v10).toNat)
      case atStart => exact ⟨0, rfl, Nat.zero_le _, rfl⟩
      case round =>
        obtain ⟨k, rfl, hk, rfl⟩ := hrel
        rw [← HMM.out] at hk
        by_cases hkl : k < M
        · obtain ⟨b5, o5, rfl, _, _, _, d3, _⟩ := HRD.out.at k (by rw [← HMM.out]; exact hkl)
          have HT := Lib.hid (tokC_take (l := l) (k := k) (by rw [← HMM.out]; exact hkl))
          have z1 : (0 : Int) ≤ k ∧ (k : Int) < M := by omega
          have hbd : tokC (l.take k) ≤ 60000 := by
            have h7 : tokC (l.take k) ≤ (l.take k).length := by unfold tokC; exact List.countP_le_length
            rw [List.length_take] at h7
            omega
          obtain ⟨q, hq⟩ : ∃ q, q = tokC (l.take k) := ⟨_, rfl⟩
          rw [← hq] at hbd HT ⊢
          obtain ⟨tk, htk⟩ : ∃ tk, tk = (l[k]'(by rw [← HMM.out]; exact hkl)).2.2.isTok := ⟨_, rfl⟩
          rw [← htk] at d3 HT
          clear hq htk
          cases tk
          · go_wp2_with fail
            go_round
            case rel => exact ⟨k + 1, by go_num, by rw [← HMM.out]; omega, by rw [HT.out]; simp⟩
            case measure => simp [intOf]; omega
          · go_wp2_with fail
            go_round
            case rel => exact ⟨k + 1, by go_num, by rw [← HMM.out]; omega, by rw [HT.out]; simp⟩
            case measure => simp [intOf]; omega
        · have hkn : k = M := by omega
          subst hkn
          have CH := Lib.hid (on_holder HL4.out.on)
          have CI := Lib.hid (on_inside HL4.out.on)
          have hq : tokC (l.take k) = tokC l := by rw [HMM.out, List.take_length]
          rw [hq]
          obtain ⟨q, hq2⟩ : ∃ q, q = tokC l := ⟨_, rfl⟩
          rw [← hq2] at HONE ⊢
          obtain ⟨hf1, hf2, hf3⟩ := excl_facts HL4.out.ok.1
          have hin := inB_holder HL4.out.ok.1
          rw [HL4.out.n] at hin
          obtain ⟨h, hh⟩ : ∃ h, h = t'.holder := ⟨_, rfl⟩
          obtain ⟨ii, hii⟩ : ∃ ii, ii = t'.insI := ⟨_, rfl⟩
          rw [← hh] at CH hf1 hf3 hin HONE
          rw [← hii] at hf1 hf2 CI
          have CN := Lib.hid (in_calls h 0 ((n : Int) - 1))
          have HF2 := Lib.hid hf2
          have HF3 := Lib.hid hf3
          have CW : Hid (∀ w1, LawI w T n (i + 1) t' w1 → Calls Try.prog 21 #[.pointer (some ⟨T, 0, none⟩)] w1 fun e w' => ∃ v, e = .returned v ∧ Sl w' v t'.wai ∧ LawI w T n (i + 1) t' w') := fun w1 hw1 => (on_waiting hw1.on).mono fun _ _ ⟨v, he, ho, _, hb⟩ => ⟨v, he, ho.sl, hw1.below hb⟩
          clear hq hq2 hh hii hf2 hf3 HRD
          go_wp2_with fail
          refine CH.out.mono ?_
          rintro e w5 ⟨rfl, rfl⟩
          go_wp2_with fail
          refine CI.out.mono ?_
          rintro e w5 ⟨rfl, _, hb5⟩
          have HL5 := Lib.hid (HL4.out.below hb5)
          clear hb5 CH CI
          go_wp2_with fail
          refine (CN.out _).mono ?_
          rintro e w6 ⟨rfl, rfl⟩
          by_cases e : h = -1
          · subst e
            have hq1 : q = 1 := by have := HONE.out; simpa using this
            have hi1 : ii = -1 := by omega
            subst hq1 hi1
            rw [hin]
            clear hin hf1
            go_wp2_with fail
            refine (CW.out _ HL5.out).mono ?_
            rintro e w7 ⟨v1, rfl, hs1, hl7⟩
            have CH1 := Lib.hid (hasV hs1 (-1))
            rw [HF2.out] at CH1
            have HL7 := Lib.hid hl7
            clear hs1 hl7
            go_wp2_with fail
            refine CH1.out.mono ?_
            rintro e w8 ⟨rfl, rfl⟩
            go_wp2_with fail
            refine (CW.out _ HL7.out).mono ?_
            rintro e w9 ⟨v2, rfl, hs2, hl9⟩
            have CH2 := Lib.hid (hasV hs2 (-1))
            rw [HF3.out] at CH2
            have HL9 := Lib.hid hl9
            clear hs2 hl9
            go_wp2_with fail
            refine CH2.out.mono ?_
            rintro e w10 ⟨rfl, rfl⟩
            go_wp2_with fail
            go_roundw
            case rel => exact ⟨i + 1, t', by go_num, HL9.out⟩
            case measure => simp [intOf]; omega
          · have hq0 : q = 0 := by have := HONE.out; rw [if_neg e] at this; omega
            subst hq0
            rw [hin, decide_eq_true e]
            rcases hf1 with rfl | rfl
            · clear hin
              go_wp2_with fail
              refine (CW.out _ HL5.out).mono ?_
              rintro e w7 ⟨v1, rfl, hs1, hl7⟩
              have CH1 := Lib.hid (hasV hs1 (-1))
              rw [HF2.out] at CH1
              have HL7 := Lib.hid hl7
              clear hs1 hl7
              go_wp2_with fail
              refine CH1.out.mono ?_
              rintro e w8 ⟨rfl, rfl⟩
              go_wp2_with fail
              refine (CW.out _ HL7.out).mono ?_
              rintro e w9 ⟨v2, rfl, hs2, hl9⟩
              have CH2 := Lib.hid (hasV hs2 h)
              rw [HF3.out] at CH2
              have HL9 := Lib.hid hl9
              clear hs2 hl9
              go_wp2_with fail
              refine CH2.out.mono ?_
              rintro e w10 ⟨rfl, rfl⟩
              go_wp2_with fail
              go_roundw
              case rel => exact ⟨i + 1, t', by go_num, HL9.out⟩
              case measure => simp [intOf]; omega
            · clear hin
              go_wp2_with fail
              refine (CW.out _ HL5.out).mono ?_
              rintro e w7 ⟨v1, rfl, hs1, hl7⟩
              have CH1 := Lib.hid (hasV hs1 ii)
              rw [HF2.out] at CH1
              have HL7 := Lib.hid hl7
              clear hs1 hl7
              go_wp2_with fail
              refine CH1.out.mono ?_
              rintro e w8 ⟨rfl, rfl⟩
              go_wp2_with fail
              refine (CW.out _ HL7.out).mono ?_
              rintro e w9 ⟨v2, rfl, hs2, hl9⟩
              have CH2 := Lib.hid (hasV hs2 ii)
              rw [HF3.out] at CH2
              have HL9 := Lib.hid hl9
              clear hs2 hl9
              go_wp2_with fail
              refine CH2.out.mono ?_
              rintro e w10 ⟨rfl, rfl⟩
              go_wp2_with fail
              go_roundw
              case rel => exact ⟨i + 1, t', by go_num, HL9.out⟩
              case measure => simp [intOf]; omega
    · clear hlaw
      by_cases h1 : i < L
      · have h2 : ¬ i < 150 := fun h => hcond ⟨h1, h⟩
        clear hcond
        go_wp2_with fail
        go_ret
        exact ⟨rfl, HLAW.out.on.bel⟩
      · clear hcond
        go_wp2_with fail
        go_ret
        exact ⟨rfl, HLAW.out.on.bel⟩
end Go.Proofs.Ytahjgdikjaakbaa
