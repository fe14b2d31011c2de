/- What is proved: the law of measures. No condition beyond those in each statement. -/
import Derived.Test.YtlidnhmagleehaaZD
namespace Go.Proofs.Ytlidnhmagleehaa
open Go.RowKit

theorem badO_chk {n : Int} {es : List (Int × Int)} {o : List Int} (h : checkF n es ≠ 0) : badO n es o = checkF n es := by unfold badO; rw [if_pos h]
theorem badO_ord {k : Nat} {es : List (Int × Int)} {o : List Int} (h : checkF k es = 0) (ho : ¬ IsOrd k o) : badO k es o = 2 := by
  unfold badO; rw [h, if_neg (by simp), places_no ho]; rfl
theorem measR_bad {n : Int} {es : List (Int × Int)} {o : List Int} {b : Int} (h : badO n es o = b) (hb : b ≠ 0) : MeasR n es o = (0, 0, 0, b) := by
  unfold MeasR; rw [h, if_pos hb]
theorem measR_ok {n : Int} {es : List (Int × Int)} {o : List Int} (h : badO n es o = 0) : MeasR n es o = (bandF (posF o) es, cutF (posF o) es, totalF (posF o) es, 0) := by
  unfold MeasR; rw [h, if_neg (by simp)]
theorem meas_ways (n : Int) (es : List (Int × Int)) (o : List Int) :
    (∃ k : Nat, n = k ∧ (1 ≤ k ∧ k ≤ 8) ∧ es.length ≤ 30 ∧ IsG k es ∧ checkF n es = 0 ∧ IsOrd k o ∧ badO n es o = 0) ∨
    (∃ k : Nat, n = k ∧ (1 ≤ k ∧ k ≤ 8) ∧ checkF n es = 0 ∧ permB n o = false ∧ badO n es o = 2) ∨ (checkF n es = 1 ∧ badO n es o = 1) ∨ (checkF n es = 3 ∧ badO n es o = 3) := by
  rcases check_val n es with ⟨hv, h30, hn, hbad⟩ | h1 | h3
  · obtain ⟨q, rfl⟩ : ∃ q : Nat, n = q := ⟨n.toNat, by omega⟩
    by_cases ho : IsOrd q o
    · exact .inl ⟨q, rfl, by omega, h30, (edOk_of hbad).2, hv, ho, meas_ok (by omega) h30 (edOk_of hbad).2 ho⟩
    · refine .inr (.inl ⟨q, rfl, by omega, hv, ?_, badO_ord hv ho⟩)
      rw [← Bool.not_eq_true, permB_iff]
      exact ho
  · exact .inr (.inr (.inl ⟨h1, by rw [badO_chk (by rw [h1]; decide), h1]⟩))
  · exact .inr (.inr (.inr ⟨h3, by rw [badO_chk (by rw [h3]; decide), h3]⟩))
set_option maxRecDepth 100000 in
set_option maxHeartbeats 16000000 in
theorem measureslaw_calls (n : Int) (A : Option Addr) (m c : Nat) (es : List (Int × Int)) (B : Option Addr) (m2 c2 : Nat) (zs : List Int) (w : World) (_hn : -9223372036854775808 ≤ n ∧ n ≤ 9223372036854775807)
    (hm : m = es.length) (hA : RdE w A es) (hl : m ≤ c) (hc : c ≤ 9223372036854775807) (hnA : A = none → c = 0) (_hwf : ∀ e ∈ es, (Lit.int .i64 e.1).wf = true ∧ (Lit.int .i64 e.2).wf = true)
    (hm2 : m2 = zs.length) (hB : Rd w B zs) (hl2 : m2 ≤ c2) (hc2 : c2 ≤ 9223372036854775807) (hnB : B = none → c2 = 0) (_hwf2 : ∀ e ∈ zs, (Lit.int .i64 e).wf = true) :
    Calls Try.prog 10 #[.int .i64 n, .slice A m c, .slice B m2 c2] w fun e w' => e = .returned (.bool true) ∧ Below w.heap.size w w' := by
  have CF := Lib.hid (few_calls A m c es w hm hA hl hc hnA)
  have CU := Lib.hid (fun (W : World) (h : Rd W B zs) => cutl_calls B m2 c2 zs W hm2 h hl2 hc2 hnB)
  have HB := Lib.hid hB
  clear hm hA hnA hm2 hB hnB _hwf _hwf2
  go_enter Try.func10, Try.ntmps10
  go_wp2_with fail
  refine CF.out.mono ?_
  rintro e w1 ⟨g, cg, rfl, ho, hB1⟩
  have hbd := ho.bd
  have HE := Lib.hid ho.rd
  have HB := Lib.hid (HB.out.below hB1)
  have HW := Lib.hid hB1
  obtain ⟨fs, hfs⟩ : ∃ fs, fs = es.take 31 := ⟨_, rfl⟩
  rw [← hfs] at hbd HE ⊢
  obtain ⟨L, hL⟩ : ∃ L, L = fs.length := ⟨_, rfl⟩
  rw [← hL] at hbd ⊢
  have HL := Lib.hid hL
  clear ho hB1 hL hfs
  go_wp2_with fail
  refine (CU.out _ HB.out).mono ?_
  rintro e w2 ⟨go, co, rfl, har, hB1⟩
  have hkc := har.bd
  have HAR := Lib.hid har.rd
  have HE := Lib.hid (HE.out.below hB1)
  have HW := Lib.hid (HW.out.trans (hB1.mono HW.out.size))
  obtain ⟨o, hfo⟩ : ∃ fs, fs = zs.take 9 := ⟨_, rfl⟩
  rw [← hfo] at hkc HAR ⊢
  obtain ⟨K, hK⟩ : ∃ L, L = o.length := ⟨_, rfl⟩
  rw [← hK] at hkc ⊢
  have HK := Lib.hid hK
  clear har hB1 hK hfo
  have CM := Lib.hid (fun (W : World) (hE : RdE W (some ⟨g, 0, none⟩) fs) (hA : Rd W (some ⟨go, 0, none⟩) o) => measure_calls n (some ⟨g, 0, none⟩) L cg fs (some ⟨go, 0, none⟩) K co o W HL.out hE hbd.1 hbd.2 HK.out hA hkc.1 hkc.2)
  have CC := Lib.hid (fun (W : World) (hE : RdE W (some ⟨g, 0, none⟩) fs) (hA : Rd W (some ⟨go, 0, none⟩) o) => Cuts_calls n (some ⟨g, 0, none⟩) L cg fs (some ⟨go, 0, none⟩) K co o W HL.out hE hbd.1 hbd.2 HK.out hA hkc.1 hkc.2)
  have CG := Lib.hid (fun (W : World) (hE : RdE W (some ⟨g, 0, none⟩) fs) => graph_calls (some ⟨g, 0, none⟩) L cg fs n W HL.out hE hbd.1 hbd.2)
  have CP := Lib.hid (fun (h8 : -1000 ≤ n ∧ n ≤ 1000) (W : World) (hA : Rd W (some ⟨go, 0, none⟩) o) => perm_calls (some ⟨go, 0, none⟩) K co o n W HK.out hA hkc.1 hkc.2 h8)
  rcases meas_ways n fs o with ⟨k, hnk, hk, h30, hg, hck, hord, hbo⟩ | ⟨k, hnk, hk, hck, hpm, hbo⟩ | ⟨hck, hbo⟩ | ⟨hck, hbo⟩
  · have HCK := Lib.hid hck
    have HBO := Lib.hid hbo
    have HO := Lib.hid hord
    have HG := Lib.hid hg
    have HN := Lib.hid hnk
    have hKk : K = k := by rw [HK.out, hord.len]
    have HPM : Hid (permB n o = true) := by rw [hnk]; exact perm_true hord
    have HM := Lib.hid (measR_ok hbo)
    have CR := Lib.hid (fun (W : World) (hE : RdE W (some ⟨g, 0, none⟩) fs) (h : Rd W (some ⟨go, 0, none⟩) o) => rmeasure_calls k hk (some ⟨g, 0, none⟩) L cg fs (some ⟨go, 0, none⟩) K co o W HL.out (by have := HL.out; omega) hg hE hbd.1 hbd.2 hKk hord h hkc.1 hkc.2)
    have CT := Lib.hid (fun (W : World) (hE : RdE W (some ⟨g, 0, none⟩) fs) (h : Rd W (some ⟨go, 0, none⟩) o) => rcuts_calls k hk (some ⟨g, 0, none⟩) L cg fs (some ⟨go, 0, none⟩) K co o W HL.out (by have := HL.out; omega) hg hE hbd.1 hbd.2 hKk hord h hkc.1 hkc.2)
    have hcl : (cutsF (posF o) fs).length = k - 1 := by rw [cutsF_len, posF_len, hord.len]
    have HCL := Lib.hid hcl
    have h18 : -1000 ≤ n ∧ n ≤ 1000 := by omega
    have HK1 : Hid (o.length = k) := hord.len
    clear hck hbo hord hg hnk hcl h30 hKk
    go_wp2_with fail
    refine (CM.out _ HE.out HAR.out).mono ?_
    rintro e w3 ⟨rfl, hB1⟩
    rw [HM.out]
    have HE := Lib.hid (HE.out.below hB1)
    have HAR := Lib.hid (HAR.out.below hB1)
    have HW := Lib.hid (HW.out.trans (hB1.mono HW.out.size))
    clear hB1
    go_wp2_with fail
    refine (CC.out _ HE.out HAR.out).mono ?_
    rintro e w4 ⟨hB1, h4⟩
    rw [if_neg (by rw [HBO.out]; simp), HK1.out] at h4
    obtain ⟨g4, rfl, har4⟩ := h4
    have HC4 := Lib.hid har4.rd
    have HE := Lib.hid (HE.out.below hB1)
    have HAR := Lib.hid (HAR.out.below hB1)
    have HW := Lib.hid (HW.out.trans (hB1.mono HW.out.size))
    clear hB1 har4
    go_wp2_with fail
    refine (CG.out _ HE.out).mono ?_
    rintro e w5 ⟨rfl, hB1⟩
    rw [HCK.out]
    have HE := Lib.hid (HE.out.below hB1)
    have HAR := Lib.hid (HAR.out.below hB1)
    have HC4 := Lib.hid (HC4.out.below hB1)
    have HW := Lib.hid (HW.out.trans (hB1.mono HW.out.size))
    clear hB1
    go_wp2_with fail
    refine (CP.out h18 _ HAR.out).mono ?_
    rintro e w6 ⟨rfl, hB1⟩
    rw [HPM.out]
    have HE := Lib.hid (HE.out.below hB1)
    have HAR := Lib.hid (HAR.out.below hB1)
    have HC4 := Lib.hid (HC4.out.below hB1)
    have HW := Lib.hid (HW.out.trans (hB1.mono HW.out.size))
    clear hB1
    go_wp2_with fail
    refine (CR.out _ HE.out HAR.out).mono ?_
    rintro e w7 ⟨rfl, hB1⟩
    have HE := Lib.hid (HE.out.below hB1)
    have HAR := Lib.hid (HAR.out.below hB1)
    have HC4 := Lib.hid (HC4.out.below hB1)
    have HW := Lib.hid (HW.out.trans (hB1.mono HW.out.size))
    clear hB1
    obtain ⟨Q1, hQ1⟩ : ∃ q, q = bandF (posF o) fs := ⟨_, rfl⟩
    obtain ⟨Q2, hQ2⟩ : ∃ q, q = cutF (posF o) fs := ⟨_, rfl⟩
    obtain ⟨Q3, hQ3⟩ : ∃ q, q = totalF (posF o) fs := ⟨_, rfl⟩
    rw [← hQ1, ← hQ2, ← hQ3]
    clear hQ1 hQ2 hQ3
    go_wp2_with fail
    refine (CT.out _ HE.out HAR.out).mono ?_
    rintro e w8 ⟨g8, c8, rfl, har8, hB1⟩
    have hb8 := har8.bd
    rw [HCL.out] at hb8
    have HC8 := Lib.hid har8.rd
    have HC4 := Lib.hid (HC4.out.below hB1)
    have HW := Lib.hid (HW.out.trans (hB1.mono HW.out.size))
    clear hB1 har8
    go_wp2_with fail
    refine (same_true (xs := cutsF (posF o) fs) HCL.out.symm HC4.out (Nat.le_refl _) (by omega) HCL.out.symm HC8.out hb8.1 hb8.2).mono ?_
    rintro e w9 ⟨rfl, hB1⟩
    have HW := Lib.hid (HW.out.trans (hB1.mono HW.out.size))
    clear hB1
    go_wp2_with fail
    refine (lives_calls _).mono ?_
    rintro e w10 ⟨rfl, hB1⟩
    have HW := Lib.hid (HW.out.trans (hB1.mono HW.out.size))
    clear hB1
    go_wp2_with fail
    go_ret
    exact ⟨rfl, HW.out⟩
  · have HCK := Lib.hid hck
    have HBO := Lib.hid hbo
    have HM := Lib.hid (measR_bad hbo (by decide))
    have HPM := Lib.hid hpm
    have h18 : -1000 ≤ n ∧ n ≤ 1000 := by omega
    clear hck hbo hpm hnk
    go_wp2_with fail
    refine (CM.out _ HE.out HAR.out).mono ?_
    rintro e w3 ⟨rfl, hB1⟩
    rw [HM.out]
    have HE := Lib.hid (HE.out.below hB1)
    have HAR := Lib.hid (HAR.out.below hB1)
    have HW := Lib.hid (HW.out.trans (hB1.mono HW.out.size))
    clear hB1
    go_wp2_with fail
    refine (CC.out _ HE.out HAR.out).mono ?_
    rintro e w4 ⟨hB1, h4⟩
    rw [HBO.out, if_pos (by decide)] at h4
    obtain rfl := h4
    have HE := Lib.hid (HE.out.below hB1)
    have HAR := Lib.hid (HAR.out.below hB1)
    have HW := Lib.hid (HW.out.trans (hB1.mono HW.out.size))
    clear hB1
    go_wp2_with fail
    refine (CG.out _ HE.out).mono ?_
    rintro e w5 ⟨rfl, hB1⟩
    rw [HCK.out]
    have HE := Lib.hid (HE.out.below hB1)
    have HAR := Lib.hid (HAR.out.below hB1)
    have HW := Lib.hid (HW.out.trans (hB1.mono HW.out.size))
    clear hB1
    go_wp2_with fail
    refine (CP.out h18 _ HAR.out).mono ?_
    rintro e w6 ⟨rfl, hB1⟩
    rw [HPM.out]
    have HW := Lib.hid (HW.out.trans (hB1.mono HW.out.size))
    clear hB1
    go_wp2_with fail
    refine (lives_calls _).mono ?_
    rintro e w10 ⟨rfl, hB1⟩
    have HW := Lib.hid (HW.out.trans (hB1.mono HW.out.size))
    clear hB1
    go_wp2_with fail
    go_ret
    exact ⟨rfl, HW.out⟩
  · have HCK := Lib.hid hck
    have HBO := Lib.hid hbo
    have HM := Lib.hid (measR_bad hbo (by decide))
    clear hck hbo
    go_wp2_with fail
    refine (CM.out _ HE.out HAR.out).mono ?_
    rintro e w3 ⟨rfl, hB1⟩
    rw [HM.out]
    have HE := Lib.hid (HE.out.below hB1)
    have HAR := Lib.hid (HAR.out.below hB1)
    have HW := Lib.hid (HW.out.trans (hB1.mono HW.out.size))
    clear hB1
    go_wp2_with fail
    refine (CC.out _ HE.out HAR.out).mono ?_
    rintro e w4 ⟨hB1, h4⟩
    rw [HBO.out, if_pos (by decide)] at h4
    obtain rfl := h4
    have HE := Lib.hid (HE.out.below hB1)
    have HAR := Lib.hid (HAR.out.below hB1)
    have HW := Lib.hid (HW.out.trans (hB1.mono HW.out.size))
    clear hB1
    go_wp2_with fail
    refine (CG.out _ HE.out).mono ?_
    rintro e w5 ⟨rfl, hB1⟩
    rw [HCK.out]
    have HE := Lib.hid (HE.out.below hB1)
    have HAR := Lib.hid (HAR.out.below hB1)
    have HW := Lib.hid (HW.out.trans (hB1.mono HW.out.size))
    clear hB1
    go_wp2_with fail
    refine (lives_calls _).mono ?_
    rintro e w10 ⟨rfl, hB1⟩
    have HW := Lib.hid (HW.out.trans (hB1.mono HW.out.size))
    clear hB1
    go_wp2_with fail
    go_ret
    exact ⟨rfl, HW.out⟩
  · have HCK := Lib.hid hck
    have HBO := Lib.hid hbo
    have HM := Lib.hid (measR_bad hbo (by decide))
    clear hck hbo
    go_wp2_with fail
    refine (CM.out _ HE.out HAR.out).mono ?_
    rintro e w3 ⟨rfl, hB1⟩
    rw [HM.out]
    have HE := Lib.hid (HE.out.below hB1)
    have HAR := Lib.hid (HAR.out.below hB1)
    have HW := Lib.hid (HW.out.trans (hB1.mono HW.out.size))
    clear hB1
    go_wp2_with fail
    refine (CC.out _ HE.out HAR.out).mono ?_
    rintro e w4 ⟨hB1, h4⟩
    rw [HBO.out, if_pos (by decide)] at h4
    obtain rfl := h4
    have HE := Lib.hid (HE.out.below hB1)
    have HAR := Lib.hid (HAR.out.below hB1)
    have HW := Lib.hid (HW.out.trans (hB1.mono HW.out.size))
    clear hB1
    go_wp2_with fail
    refine (CG.out _ HE.out).mono ?_
    rintro e w5 ⟨rfl, hB1⟩
    rw [HCK.out]
    have HE := Lib.hid (HE.out.below hB1)
    have HAR := Lib.hid (HAR.out.below hB1)
    have HW := Lib.hid (HW.out.trans (hB1.mono HW.out.size))
    clear hB1
    go_wp2_with fail
    refine (lives_calls _).mono ?_
    rintro e w10 ⟨rfl, hB1⟩
    have HW := Lib.hid (HW.out.trans (hB1.mono HW.out.size))
    clear hB1
    go_wp2_with fail
    go_ret
    exact ⟨rfl, HW.out⟩
end Go.Proofs.Ytlidnhmagleehaa
