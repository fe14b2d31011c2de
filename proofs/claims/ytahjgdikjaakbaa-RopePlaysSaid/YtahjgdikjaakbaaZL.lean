/- What is proved: RopeAlone. No condition beyond those in each statement. -/
import Derived.Test.YtahjgdikjaakbaaZG
import Derived.Test.YtahjgdikjaakbaaZK
namespace Go.Proofs.Ytahjgdikjaakbaa
open Go.RowKit

theorem tw_clone {w : World} {T : Nat} {t : TS} {X : Nat → Prop} {k : Nat} (h : Tw w T t X) (O : Ok t k) (hk : k ≤ 10000) : Calls Try.prog 31 #[.pointer (some ⟨T, 0, none⟩)] w fun e w' => ∃ T2 X2, e = .returned (.pointer (some ⟨T2, 0, none⟩)) ∧ Tw w' T2 t X2 ∧ (∀ g, X2 g → w.heap.size ≤ g) ∧ Below w.heap.size w w' := by
  obtain ⟨s, U, _⟩ := h
  refine (clone_calls U O.1 (U.fl O.1 O.2 hk)).mono ?_
  rintro e w' ⟨T2, s2, rfl, U2, hf, hb⟩
  exact ⟨T2, _, rfl, ⟨s2, U2, rfl⟩, hf, hb⟩
/-- A clone leaves all that was there. -/
theorem on_clone {f : Fr} {w : World} {T : Nat} {t : TS} {k : Nat} (h : On f T t w) (O : Ok t k) (hk : k ≤ 10000) : Calls Try.prog 31 #[.pointer (some ⟨T, 0, none⟩)] w fun e w' => ∃ T2, e = .returned (.pointer (some ⟨T2, 0, none⟩)) ∧ On (Fr.of w) T2 t w' := by
  obtain ⟨X, h1, _, _⟩ := h
  refine (tw_clone h1 O hk).mono ?_
  rintro e w' ⟨T2, X2, rfl, h2, hf, hb⟩
  exact ⟨T2, rfl, X2, h2, fun g (hg : g < w.heap.size) hx => by have := hf g hx; omega, ⟨hb.os, hb.tape, hb.output, hb.size, hb.block⟩⟩
theorem alone_facts {t : TS} {k : Nat} (O : Ok t k) {i : Nat} (hi : i < t.n) :
    (t.m i = 2 → t.insI = i ∧ t.wantE i = 7 ∧ (t.want i).sent = t.sent) ∧
    (t.m i = 1 → t.insI ≠ i ∧ (t.wai.any fun u => u == (i : Int)) = true ∧ t.wantE i = 7 ∧ (t.want i).sent = t.sent) ∧
    (t.m i = 0 → t.insI ≠ i ∧ (t.wai.any fun u => u == (i : Int)) = false ∧ t.wantE i = 0 ∧ (t.holder = i → (t.want i).sent = t.sent ∧ (t.want i).insI = i) ∧ (t.holder ≠ i → (t.want i).sent = t.sent + t.n - 1 ∧ ((t.want i).wai.any fun u => u == (i : Int)) = true)) := by
  have I := O.1
  have ht := thereB_nat hi
  have hin : ∀ a : Nat, t.insI = a → t.m a = 2 := by
    intro a ha
    rcases insI_cases I with ⟨h, _⟩ | ⟨b, _, h1, h2, _⟩
    · omega
    · have : a = b := by omega
      subst this; exact h2
  refine ⟨fun hm => ⟨?_, ?_, ?_⟩, fun hm => ⟨fun h => ?_, ?_, ?_, ?_⟩, fun hm => ⟨fun h => ?_, ?_, ?_, fun hh => ?_, fun hh => ?_⟩⟩
  · rcases insI_cases I with ⟨_, h⟩ | ⟨b, hb, h1, h2, h3⟩
    · exact absurd hm (h i hi)
    · have := I.ins i hi hm
      omega
  · unfold TS.wantE; rw [if_pos ht, Int.toNat_natCast, if_neg (by omega)]
  · unfold TS.want; rw [if_pos ht, Int.toNat_natCast, if_neg (by omega)]
  · have := hin i h; omega
  · rw [List.any_eq_true]; exact ⟨i, (wai_mem t _).2 ⟨i, hi, rfl, hm⟩, by simp⟩
  · unfold TS.wantE; rw [if_pos ht, Int.toNat_natCast, if_neg (by omega)]
  · unfold TS.want; rw [if_pos ht, Int.toNat_natCast, if_neg (by omega)]
  · have := hin i h; omega
  · refine hasB_false fun h => ?_
    obtain ⟨a, _, e, hma⟩ := (wai_mem t _).1 h
    have : a = i := by omega
    subst this; omega
  · unfold TS.wantE; rw [if_pos ht, Int.toNat_natCast, if_pos hm]
  · have e : t.want i = t.hold i := by unfold TS.want; rw [if_pos ht, Int.toNat_natCast, if_pos hm, if_pos hh]
    rw [e]
    refine ⟨rfl, ?_⟩
    have I2 := I.hold hi hm hh
    have em : (t.hold i).m i = 2 := by
      have : (t.hold i).m i = if i = i then 2 else t.m i := getD_set _ _ _ _ _ (by rw [I.lm]; exact hi)
      rw [this, if_pos rfl]
    rcases insI_cases I2 with ⟨_, h⟩ | ⟨b, hb, h1, h2, h3⟩
    · exact absurd em (h i hi)
    · have h4 : (t.hold i).holder = t.holder := rfl
      rw [h4] at h3
      omega
  · have e : t.want i = t.ask i := by unfold TS.want; rw [if_pos ht, Int.toNat_natCast, if_pos hm, if_neg hh]
    rw [e]
    refine ⟨?_, ?_⟩
    · show t.sent + (t.n - 1) = t.sent + t.n - 1
      omega
    · rw [List.any_eq_true]
      refine ⟨i, (wai_mem _ _).2 ⟨i, hi, rfl, ?_⟩, by simp⟩
      have : (t.ask i).m i = if i = i then 1 else t.m i := getD_set _ _ _ _ _ (by rw [I.lm]; exact hi)
      rw [this, if_pos rfl]
def AoI (w : World) (T n i : Nat) (t : TS) (w4 : World) (v : Value) (wr : World) : Prop := ∃ a : Nat, v = .int .i64 a ∧ a ≤ n ∧ LawI w T n i t wr ∧ Below w4.heap.size w4 wr
set_option maxRecDepth 100000 in
set_option maxHeartbeats 8000000 in
theorem alone_calls (x y : Int) (A : Option Addr) (L c : Nat) (xs : List Int) (w : World) (hx : 0 ≤ x ∧ x ≤ 255) (hy : 0 ≤ y ∧ y ≤ 255) (hL : L = xs.length) (hA : RdU w A xs) (_hl : L ≤ c) (hc : c ≤ 9223372036854775807) (hxs : ∀ b ∈ xs, 0 ≤ b ∧ b ≤ 255) :
    Calls Try.prog 9 #[.agg #[.int .u8 x, .int .u8 y], .slice A L c] w fun e w' => e = .returned (.bool true) ∧ Below w.heap.size w w' := by
  obtain ⟨n, hn⟩ : ∃ n, n = mdN x := ⟨_, rfl⟩
  have CM : Hid (Calls Try.prog 13 #[.agg #[.int .u8 x, .int .u8 y]] (w.alloc (.cells #[.int .u8 x, .int .u8 y] 22)) fun e w' => ∃ T, e = .returned (.tuple #[.pointer (some ⟨T, 0, none⟩), .int .i64 n]) ∧ On w T (mdT x y) w') := by rw [hn]; exact tmade_calls w _ ((Below.refl _ _).alloc (Nat.le_refl _) _) x y hx hy
  have hn6 : 1 ≤ n ∧ n ≤ 6 := by rw [hn]; exact (md_ok x y).1
  have CL := Lib.hid (fun w1 => lives_calls w1)
  have HA := Lib.hid hA
  have HL := Lib.hid hL
  have HXS := Lib.hid hxs
  have HLC := Lib.hid _hl
  have HM : Hid (Ok (mdT x y) 0 ∧ (mdT x y).n = n) := ⟨mdT_ok x y, hn.symm⟩
  have hLc : (L : Int) ≤ 9223372036854775807 := by omega
  clear hA hL hxs hn
  go_enter Try.func9, Try.ntmps9
  go_wp2_with fail
  refine CM.out.mono ?_
  rintro e w1 ⟨T, rfl, ho⟩
  have HO := Lib.hid ho
  clear ho CM
  go_wp2_with fail
  refine (CL.out _).mono ?_
  rintro e w2 ⟨rfl, hb⟩
  have HO2 := Lib.hid (HO.out.below hb)
  clear hb CL HO
  go_wp2_with fail
  go_loopw [7] (fun v7 wr => AlI w T n v7 wr) (fun v7 _ => L - (intOf v7).toNat)
  case atStart => exact ⟨0, mdT x y, rfl, by omega, HO2.out, HM.out.1, HM.out.2⟩
  case round =>
    obtain ⟨i, t, rfl, hi60, hlaw⟩ := hrel
    have HLAW := Lib.hid hlaw
    by_cases hcond : i < L ∧ i < 60
    · obtain ⟨h1, h2⟩ := hcond
      have hil : i < xs.length := by have := HL.out; omega
      obtain ⟨b, o, rfl, hb, hcell⟩ := HA.out.at i hil
      have d1 := (hlaw.on.bel.cell (p := ⟨b, o + i, none⟩) hb).trans hcell
      have hxi := HXS.out xs[i] (List.getElem_mem hil)
      obtain ⟨xi, hxi2⟩ : ∃ xi, xi = xs[i] := ⟨_, rfl⟩
      rw [← hxi2] at d1 hxi
      have CA := Lib.hid (hlaw.act (by omega) xi hxi)
      have b1 : (0 : Int) ≤ i ∧ (i : Int) < L := by omega
      obtain ⟨r, hr⟩ : ∃ r, r = t.actB xi := ⟨_, rfl⟩
      rw [← hr] at CA
      clear hlaw hcell hb hxi2 hxi hr
      go_wp2_with fail
      refine CA.out.mono ?_
      rintro e w3 ⟨rfl, hlaw⟩
      obtain ⟨t', ht'⟩ : ∃ t', t' = t.act xi := ⟨_, rfl⟩
      rw [← ht'] at hlaw
      have HLW := Lib.hid hlaw
      clear hlaw CA ht' d1
      go_wp2_with fail
      go_roundw
      case rel => exact ⟨i + 1, t', by go_num, by omega, HLW.out⟩
      case measure => simp [intOf]; omega
    · have hdone : ¬ i < L ∨ ¬ i < 60 := by omega
      have hi60' : i ≤ 10000 := by omega
      by_cases h1 : i < L
      · have h2 : ¬ i < 60 := fun h => hcond ⟨h1, h⟩
        clear hcond hdone
        have C1 := Lib.hid (on_holder HLAW.out.on)
        have C2 := Lib.hid (on_sent HLAW.out.on)
        have C3 := Lib.hid (on_inside HLAW.out.on)
        have C4 : Hid (∀ w1, LawI w T n i t w1 → Calls Try.prog 21 #[.pointer (some ⟨T, 0, none⟩)] w1 fun e w' => ∃ v, e = .returned v ∧ Sl w' v t.wai ∧ LawI w T n i t w') := fun w1 h1 => (on_waiting h1.on).mono fun _ _ ⟨v, he, ho, _, hb⟩ => ⟨v, he, ho.sl, h1.below hb⟩
        obtain ⟨h, hh⟩ : ∃ h, h = t.holder := ⟨_, rfl⟩
        obtain ⟨sn, hsn⟩ : ∃ sn, sn = t.sent := ⟨_, rfl⟩
        obtain ⟨ii, hii⟩ : ∃ ii, ii = t.insI := ⟨_, rfl⟩
        rw [← hh] at C1
        rw [← hsn] at C2
        rw [← hii] at C3
        have hs0 := HLAW.out.ok.2.s0
        rw [← hsn] at hs0
        have HEQ := Lib.hid (And.intro hh (And.intro hsn hii))
        clear hlaw hh hsn hii
        go_wp2_with fail
        refine C1.out.mono ?_
        rintro e w3 ⟨rfl, rfl⟩
        go_wp2_with fail
        refine C2.out.mono ?_
        rintro e w3 ⟨rfl, rfl⟩
        go_wp2_with fail
        refine C3.out.mono ?_
        rintro e w3 ⟨rfl, _, hb3⟩
        have HL3 := Lib.hid (HLAW.out.below hb3)
        clear hb3 C1 C2 C3
        go_wp2_with fail
        refine (C4.out _ HL3.out).mono ?_
        rintro e w4 ⟨v, rfl, hs4, hl4⟩
        have HS4 := Lib.hid hs4
        have HL4 := Lib.hid hl4
        clear hs4 hl4 C4 HL3
        go_wp2_with fail
        go_loopw [12] (fun v12 wr => AoI w T n i t w4 v12 wr) (fun v12 _ => n - (intOf v12).toNat)
        case atStart => exact ⟨0, rfl, Nat.zero_le _, HL4.out, Below.refl _ _⟩
        case round =>
          obtain ⟨a, rfl, ha, hla, hba⟩ := hrel
          have HLA := Lib.hid hla
          have HBA := Lib.hid hba
          by_cases han : a < n
          · have CCL := Lib.hid (on_clone hla.on hla.ok hi60')
            have CWA : Hid (∀ T2 w6, On (Fr.of wr) T2 t w6 → Calls Try.prog 32 #[.pointer (some ⟨T2, 0, none⟩), .int .i64 a] w6 fun e w' => e = .returned (.int .i64 (t.wantE a)) ∧ On (Fr.of wr) T2 (t.want a) w') := fun T2 w6 h6 => on_want h6 HLAW.out.ok hi60' a
            have CSE : Hid (∀ T2 w6, On (Fr.of wr) T2 (t.want a) w6 → Calls Try.prog 22 #[.pointer (some ⟨T2, 0, none⟩)] w6 fun e w' => e = .returned (.int .i64 (t.want a).sent) ∧ w6 = w') := fun T2 w6 h6 => on_sent h6
            have CIN : Hid (∀ T2 w6, On (Fr.of wr) T2 (t.want a) w6 → Calls Try.prog 18 #[.pointer (some ⟨T2, 0, none⟩)] w6 fun e w' => e = .returned (.int .i64 (t.want a).insI) ∧ On (Fr.of wr) T2 (t.want a) w') := fun T2 w6 h6 => (on_inside h6).mono fun _ _ ⟨he, h7, _⟩ => ⟨he, h7⟩
            have CWT : Hid (∀ T2 w6, On (Fr.of wr) T2 (t.want a) w6 → Calls Try.prog 21 #[.pointer (some ⟨T2, 0, none⟩)] w6 fun e w' => ∃ v, e = .returned v ∧ Sl w' v (t.want a).wai ∧ On (Fr.of wr) T2 (t.want a) w') := fun T2 w6 h6 => (on_waiting h6).mono fun _ _ ⟨v, he, ho, h7, _⟩ => ⟨v, he, ho.sl, h7⟩
            have CHV : Hid (∀ T2 t2 w6, On (Fr.of wr) T2 t2 w6 → Calls Try.prog 20 #[v, .int .i64 a] w6 fun e w' => e = .returned (.bool (t.wai.any fun u => u == (a : Int))) ∧ w6 = w') := fun T2 t2 w6 h6 => hasV ((HS4.out.below HBA.out).below (On.bel h6)) a
            obtain ⟨f2, f1, f0⟩ := alone_facts hla.ok (show a < t.n by rw [hla.n]; exact han)
            obtain ⟨e1, e2, e3⟩ := HEQ.out
            rw [← e1, ← e2, ← e3, hla.n] at f0
            rw [← e3] at f1 f2
            have hmd := hla.ok.1.md a (by rw [hla.n]; exact han)
            have HMD := Lib.hid hmd
            clear hla hba hmd e1 e2 e3
            rcases HMD.out with hm | hm | hm
            · obtain ⟨q1, q2, q3, q4, q5⟩ := f0 hm
              rw [q2] at CHV
              rw [q3] at CWA
              clear f0 f1 f2 hm q2 q3
              have hqi : ((a : Int) == ii) = false := by rw [beq_eq_false_iff_ne]; exact fun h => q1 h.symm
              by_cases hh : h = a
              · obtain ⟨g1, g2⟩ := q4 hh
                subst hh
                rw [g1] at CSE
                rw [g2] at CIN
                clear q4 q5 g1 g2 q1 CWT
                go_wp2_with fail
                refine CCL.out.mono ?_
                rintro e w6 ⟨T2, rfl, h6⟩
                have H6 := Lib.hid h6
                clear h6 CCL
                go_wp2_with fail
                refine (CWA.out _ _ H6.out).mono ?_
                rintro e w7 ⟨rfl, h7⟩
                have H7 := Lib.hid h7
                clear h7 CWA H6
                go_wp2_with fail
                refine (CHV.out _ _ _ H7.out).mono ?_
                rintro e w8 ⟨rfl, rfl⟩
                go_wp2_with fail
                refine (CSE.out _ _ H7.out).mono ?_
                rintro e w8 ⟨rfl, rfl⟩
                go_wp2_with fail
                refine (CIN.out _ _ H7.out).mono ?_
                rintro e w9 ⟨rfl, h9⟩
                have H7 := Lib.hid h9
                clear h9
                go_wp2_with fail
                go_roundw
                case rel => exact ⟨a + 1, by go_num, by omega, HLA.out.below (On.bel H7.out), HBA.out.trans ((On.bel H7.out).mono HBA.out.size)⟩
                case measure => simp [intOf]; omega
              · obtain ⟨g1, g2⟩ := q5 hh
                rw [g1] at CSE
                have hqh : ((a : Int) == h) = false := by rw [beq_eq_false_iff_ne]; exact fun e => hh e.symm
                have ws1 : IntKind.i64.wrap (sn + n) = sn + n := IntWalk.i64_in _ (by omega)
                have ws2 : IntKind.i64.wrap (sn + n - 1) = sn + n - 1 := IntWalk.i64_in _ (by omega)
                have hne : (a : Int) ≠ ii := fun e => q1 e.symm
                have hnh : (a : Int) ≠ h := fun e => hh e.symm
                have HG2 := Lib.hid g2
                clear q4 q5 g1 g2 q1 CIN
                go_wp2_with fail
                refine CCL.out.mono ?_
                rintro e w6 ⟨T2, rfl, h6⟩
                have H6 := Lib.hid h6
                clear h6 CCL
                go_wp2_with fail
                refine (CWA.out _ _ H6.out).mono ?_
                rintro e w7 ⟨rfl, h7⟩
                have H7 := Lib.hid h7
                clear h7 CWA H6
                go_wp2_with fail
                refine (CHV.out _ _ _ H7.out).mono ?_
                rintro e w8 ⟨rfl, rfl⟩
                go_wp2_with fail
                refine (CSE.out _ _ H7.out).mono ?_
                rintro e w8 ⟨rfl, rfl⟩
                go_wp2_with fail
                refine (CWT.out _ _ H7.out).mono ?_
                rintro e w9 ⟨v9, rfl, hs9, h9⟩
                have CH9 := Lib.hid (hasV hs9 a)
                rw [HG2.out] at CH9
                have H7 := Lib.hid h9
                clear h9 hs9
                go_wp2_with fail
                refine CH9.out.mono ?_
                rintro e w10 ⟨rfl, rfl⟩
                go_wp2_with fail
                go_roundw
                case rel => exact ⟨a + 1, by go_num, by omega, HLA.out.below (On.bel H7.out), HBA.out.trans ((On.bel H7.out).mono HBA.out.size)⟩
                case measure => simp [intOf]; omega
            · obtain ⟨q1, q2, q3, q4⟩ := f1 hm
              rw [q2] at CHV
              rw [q3] at CWA
              rw [q4, ← HEQ.out.2.1] at CSE
              have hqi : ((a : Int) == ii) = false := by rw [beq_eq_false_iff_ne]; exact fun h => q1 h.symm
              have hne : (a : Int) ≠ ii := fun e => q1 e.symm
              clear f0 f1 f2 hm q2 q3 q4 q1 CWT CIN
              go_wp2_with fail
              refine CCL.out.mono ?_
              rintro e w6 ⟨T2, rfl, h6⟩
              have H6 := Lib.hid h6
              clear h6 CCL
              go_wp2_with fail
              refine (CWA.out _ _ H6.out).mono ?_
              rintro e w7 ⟨rfl, h7⟩
              have H7 := Lib.hid h7
              clear h7 CWA H6
              go_wp2_with fail
              refine (CHV.out _ _ _ H7.out).mono ?_
              rintro e w8 ⟨rfl, rfl⟩
              go_wp2_with fail
              refine (CSE.out _ _ H7.out).mono ?_
              rintro e w8 ⟨rfl, rfl⟩
              go_wp2_with fail
              go_roundw
              case rel => exact ⟨a + 1, by go_num, by omega, HLA.out.below (On.bel H7.out), HBA.out.trans ((On.bel H7.out).mono HBA.out.size)⟩
              case measure => simp [intOf]; omega
            · obtain ⟨q1, q3, q4⟩ := f2 hm
              rw [q3] at CWA
              rw [q4, ← HEQ.out.2.1] at CSE
              clear f0 f1 f2 hm q3 q4 CWT CIN
              subst q1
              go_wp2_with fail
              refine CCL.out.mono ?_
              rintro e w6 ⟨T2, rfl, h6⟩
              have H6 := Lib.hid h6
              clear h6 CCL
              go_wp2_with fail
              refine (CWA.out _ _ H6.out).mono ?_
              rintro e w7 ⟨rfl, h7⟩
              have H7 := Lib.hid h7
              clear h7 CWA H6
              go_wp2_with fail
              refine (CSE.out _ _ H7.out).mono ?_
              rintro e w8 ⟨rfl, rfl⟩
              go_wp2_with fail
              go_roundw
              case rel => exact ⟨a + 1, by go_num, by omega, HLA.out.below (On.bel H7.out), HBA.out.trans ((On.bel H7.out).mono HBA.out.size)⟩
              case measure => simp [intOf]; omega
          · have hae : a = n := by omega
            subst hae
            clear hla hba
            go_wp2_with fail
            go_ret
            exact ⟨rfl, HLA.out.on.bel⟩
      · clear hcond hdone
        have C1 := Lib.hid (on_holder HLAW.out.on)
        have C2 := Lib.hid (on_sent HLAW.out.on)
        have C3 := Lib.hid (on_inside HLAW.out.on)
        have C4 : Hid (∀ w1, LawI w T n i t w1 → Calls Try.prog 21 #[.pointer (some ⟨T, 0, none⟩)] w1 fun e w' => ∃ v, e = .returned v ∧ Sl w' v t.wai ∧ LawI w T n i t w') := fun w1 h1 => (on_waiting h1.on).mono fun _ _ ⟨v, he, ho, _, hb⟩ => ⟨v, he, ho.sl, h1.below hb⟩
        obtain ⟨h, hh⟩ : ∃ h, h = t.holder := ⟨_, rfl⟩
        obtain ⟨sn, hsn⟩ : ∃ sn, sn = t.sent := ⟨_, rfl⟩
        obtain ⟨ii, hii⟩ : ∃ ii, ii = t.insI := ⟨_, rfl⟩
        rw [← hh] at C1
        rw [← hsn] at C2
        rw [← hii] at C3
        have hs0 := HLAW.out.ok.2.s0
        rw [← hsn] at hs0
        have HEQ := Lib.hid (And.intro hh (And.intro hsn hii))
        clear hlaw hh hsn hii
        go_wp2_with fail
        refine C1.out.mono ?_
        rintro e w3 ⟨rfl, rfl⟩
        go_wp2_with fail
        refine C2.out.mono ?_
        rintro e w3 ⟨rfl, rfl⟩
        go_wp2_with fail
        refine C3.out.mono ?_
        rintro e w3 ⟨rfl, _, hb3⟩
        have HL3 := Lib.hid (HLAW.out.below hb3)
        clear hb3 C1 C2 C3
        go_wp2_with fail
        refine (C4.out _ HL3.out).mono ?_
        rintro e w4 ⟨v, rfl, hs4, hl4⟩
        have HS4 := Lib.hid hs4
        have HL4 := Lib.hid hl4
        clear hs4 hl4 C4 HL3
        go_wp2_with fail
        go_loopw [12] (fun v12 wr => AoI w T n i t w4 v12 wr) (fun v12 _ => n - (intOf v12).toNat)
        case atStart => exact ⟨0, rfl, Nat.zero_le _, HL4.out, Below.refl _ _⟩
        case round =>
          obtain ⟨a, rfl, ha, hla, hba⟩ := hrel
          have HLA := Lib.hid hla
          have HBA := Lib.hid hba
          by_cases han : a < n
          · have CCL := Lib.hid (on_clone hla.on hla.ok hi60')
            have CWA : Hid (∀ T2 w6, On (Fr.of wr) T2 t w6 → Calls Try.prog 32 #[.pointer (some ⟨T2, 0, none⟩), .int .i64 a] w6 fun e w' => e = .returned (.int .i64 (t.wantE a)) ∧ On (Fr.of wr) T2 (t.want a) w') := fun T2 w6 h6 => on_want h6 HLAW.out.ok hi60' a
            have CSE : Hid (∀ T2 w6, On (Fr.of wr) T2 (t.want a) w6 → Calls Try.prog 22 #[.pointer (some ⟨T2, 0, none⟩)] w6 fun e w' => e = .returned (.int .i64 (t.want a).sent) ∧ w6 = w') := fun T2 w6 h6 => on_sent h6
            have CIN : Hid (∀ T2 w6, On (Fr.of wr) T2 (t.want a) w6 → Calls Try.prog 18 #[.pointer (some ⟨T2, 0, none⟩)] w6 fun e w' => e = .returned (.int .i64 (t.want a).insI) ∧ On (Fr.of wr) T2 (t.want a) w') := fun T2 w6 h6 => (on_inside h6).mono fun _ _ ⟨he, h7, _⟩ => ⟨he, h7⟩
            have CWT : Hid (∀ T2 w6, On (Fr.of wr) T2 (t.want a) w6 → Calls Try.prog 21 #[.pointer (some ⟨T2, 0, none⟩)] w6 fun e w' => ∃ v, e = .returned v ∧ Sl w' v (t.want a).wai ∧ On (Fr.of wr) T2 (t.want a) w') := fun T2 w6 h6 => (on_waiting h6).mono fun _ _ ⟨v, he, ho, h7, _⟩ => ⟨v, he, ho.sl, h7⟩
            have CHV : Hid (∀ T2 t2 w6, On (Fr.of wr) T2 t2 w6 → Calls Try.prog 20 #[v, .int .i64 a] w6 fun e w' => e = .returned (.bool (t.wai.any fun u => u == (a : Int))) ∧ w6 = w') := fun T2 t2 w6 h6 => hasV ((HS4.out.below HBA.out).below (On.bel h6)) a
            obtain ⟨f2, f1, f0⟩ := alone_facts hla.ok (show a < t.n by rw [hla.n]; exact han)
            obtain ⟨e1, e2, e3⟩ := HEQ.out
            rw [← e1, ← e2, ← e3, hla.n] at f0
            rw [← e3] at f1 f2
            have hmd := hla.ok.1.md a (by rw [hla.n]; exact han)
            have HMD := Lib.hid hmd
            clear hla hba hmd e1 e2 e3
            rcases HMD.out with hm | hm | hm
            · obtain ⟨q1, q2, q3, q4, q5⟩ := f0 hm
              rw [q2] at CHV
              rw [q3] at CWA
              clear f0 f1 f2 hm q2 q3
              have hqi : ((a : Int) == ii) = false := by rw [beq_eq_false_iff_ne]; exact fun h => q1 h.symm
              by_cases hh : h = a
              · obtain ⟨g1, g2⟩ := q4 hh
                subst hh
                rw [g1] at CSE
                rw [g2] at CIN
                clear q4 q5 g1 g2 q1 CWT
                go_wp2_with fail
                refine CCL.out.mono ?_
                rintro e w6 ⟨T2, rfl, h6⟩
                have H6 := Lib.hid h6
                clear h6 CCL
                go_wp2_with fail
                refine (CWA.out _ _ H6.out).mono ?_
                rintro e w7 ⟨rfl, h7⟩
                have H7 := Lib.hid h7
                clear h7 CWA H6
                go_wp2_with fail
                refine (CHV.out _ _ _ H7.out).mono ?_
                rintro e w8 ⟨rfl, rfl⟩
                go_wp2_with fail
                refine (CSE.out _ _ H7.out).mono ?_
                rintro e w8 ⟨rfl, rfl⟩
                go_wp2_with fail
                refine (CIN.out _ _ H7.out).mono ?_
                rintro e w9 ⟨rfl, h9⟩
                have H7 := Lib.hid h9
                clear h9
                go_wp2_with fail
                go_roundw
                case rel => exact ⟨a + 1, by go_num, by omega, HLA.out.below (On.bel H7.out), HBA.out.trans ((On.bel H7.out).mono HBA.out.size)⟩
                case measure => simp [intOf]; omega
              · obtain ⟨g1, g2⟩ := q5 hh
                rw [g1] at CSE
                have hqh : ((a : Int) == h) = false := by rw [beq_eq_false_iff_ne]; exact fun e => hh e.symm
                have ws1 : IntKind.i64.wrap (sn + n) = sn + n := IntWalk.i64_in _ (by omega)
                have ws2 : IntKind.i64.wrap (sn + n - 1) = sn + n - 1 := IntWalk.i64_in _ (by omega)
                have hne : (a : Int) ≠ ii := fun e => q1 e.symm
                have hnh : (a : Int) ≠ h := fun e => hh e.symm
                have HG2 := Lib.hid g2
                clear q4 q5 g1 g2 q1 CIN
                go_wp2_with fail
                refine CCL.out.mono ?_
                rintro e w6 ⟨T2, rfl, h6⟩
                have H6 := Lib.hid h6
                clear h6 CCL
                go_wp2_with fail
                refine (CWA.out _ _ H6.out).mono ?_
                rintro e w7 ⟨rfl, h7⟩
                have H7 := Lib.hid h7
                clear h7 CWA H6
                go_wp2_with fail
                refine (CHV.out _ _ _ H7.out).mono ?_
                rintro e w8 ⟨rfl, rfl⟩
                go_wp2_with fail
                refine (CSE.out _ _ H7.out).mono ?_
                rintro e w8 ⟨rfl, rfl⟩
                go_wp2_with fail
                refine (CWT.out _ _ H7.out).mono ?_
                rintro e w9 ⟨v9, rfl, hs9, h9⟩
                have CH9 := Lib.hid (hasV hs9 a)
                rw [HG2.out] at CH9
                have H7 := Lib.hid h9
                clear h9 hs9
                go_wp2_with fail
                refine CH9.out.mono ?_
                rintro e w10 ⟨rfl, rfl⟩
                go_wp2_with fail
                go_roundw
                case rel => exact ⟨a + 1, by go_num, by omega, HLA.out.below (On.bel H7.out), HBA.out.trans ((On.bel H7.out).mono HBA.out.size)⟩
                case measure => simp [intOf]; omega
            · obtain ⟨q1, q2, q3, q4⟩ := f1 hm
              rw [q2] at CHV
              rw [q3] at CWA
              rw [q4, ← HEQ.out.2.1] at CSE
              have hqi : ((a : Int) == ii) = false := by rw [beq_eq_false_iff_ne]; exact fun h => q1 h.symm
              have hne : (a : Int) ≠ ii := fun e => q1 e.symm
              clear f0 f1 f2 hm q2 q3 q4 q1 CWT CIN
              go_wp2_with fail
              refine CCL.out.mono ?_
              rintro e w6 ⟨T2, rfl, h6⟩
              have H6 := Lib.hid h6
              clear h6 CCL
              go_wp2_with fail
              refine (CWA.out _ _ H6.out).mono ?_
              rintro e w7 ⟨rfl, h7⟩
              have H7 := Lib.hid h7
              clear h7 CWA H6
              go_wp2_with fail
              refine (CHV.out _ _ _ H7.out).mono ?_
              rintro e w8 ⟨rfl, rfl⟩
              go_wp2_with fail
              refine (CSE.out _ _ H7.out).mono ?_
              rintro e w8 ⟨rfl, rfl⟩
              go_wp2_with fail
              go_roundw
              case rel => exact ⟨a + 1, by go_num, by omega, HLA.out.below (On.bel H7.out), HBA.out.trans ((On.bel H7.out).mono HBA.out.size)⟩
              case measure => simp [intOf]; omega
            · obtain ⟨q1, q3, q4⟩ := f2 hm
              rw [q3] at CWA
              rw [q4, ← HEQ.out.2.1] at CSE
              clear f0 f1 f2 hm q3 q4 CWT CIN
              subst q1
              go_wp2_with fail
              refine CCL.out.mono ?_
              rintro e w6 ⟨T2, rfl, h6⟩
              have H6 := Lib.hid h6
              clear h6 CCL
              go_wp2_with fail
              refine (CWA.out _ _ H6.out).mono ?_
              rintro e w7 ⟨rfl, h7⟩
              have H7 := Lib.hid h7
              clear h7 CWA H6
              go_wp2_with fail
              refine (CSE.out _ _ H7.out).mono ?_
              rintro e w8 ⟨rfl, rfl⟩
              go_wp2_with fail
              go_roundw
              case rel => exact ⟨a + 1, by go_num, by omega, HLA.out.below (On.bel H7.out), HBA.out.trans ((On.bel H7.out).mono HBA.out.size)⟩
              case measure => simp [intOf]; omega
          · have hae : a = n := by omega
            subst hae
            clear hla hba
            go_wp2_with fail
            go_ret
            exact ⟨rfl, HLA.out.on.bel⟩
end Go.Proofs.Ytahjgdikjaakbaa
