/- What is proved: the law of bounds. No condition beyond those in each statement. -/
import Derived.Test.YtlidnhmagleehaaZF
namespace Go.Proofs.Ytlidnhmagleehaa
open Go.RowKit

theorem bnd_nonneg {n : Nat} {es : List (Int × Int)} {b : Int} (h : bndF n es = some b) : 0 ≤ b := by
  unfold bndF at h
  split at h
  · cases h
  · cases h
    omega
theorem bound_ways4 (n : Int) (es : List (Int × Int)) :
    (checkF n es = 1 ∧ BoundR n es = (0, 1)) ∨ (checkF n es = 3 ∧ BoundR n es = (0, 3)) ∨
    (∃ k : Nat, n = k ∧ (1 ≤ k ∧ k ≤ 8) ∧ es.length ≤ 30 ∧ IsG k es ∧ checkF n es = 0 ∧ BoundR n es = (0, 5) ∧ refB k es = -1) ∨
    (∃ (k : Nat) (b : Int), n = k ∧ (1 ≤ k ∧ k ≤ 8) ∧ es.length ≤ 30 ∧ IsG k es ∧ checkF n es = 0 ∧ BoundR n es = (b, 0) ∧ refB k es = b ∧ 0 ≤ b) := by
  rcases check_val n es with ⟨hv, h30, hn, hbad⟩ | h1 | h3
  · obtain ⟨q, rfl⟩ : ∃ q : Nat, n = q := ⟨n.toNat, by omega⟩
    by_cases h2 : q < 2
    · exact .inr (.inr (.inl ⟨q, rfl, by omega, h30, (edOk_of hbad).2, hv, by unfold BoundR; rw [if_neg (by rw [hv]; simp), if_pos (by omega)], by unfold refB; rw [if_pos h2]⟩))
    · cases hb : bndF q es with
      | none => exact .inr (.inr (.inl ⟨q, rfl, by omega, h30, (edOk_of hbad).2, hv, by unfold BoundR; rw [if_neg (by rw [hv]; simp), if_neg (by omega), Int.toNat_natCast, hb], by unfold refB; rw [if_neg h2, hb]⟩))
      | some b => exact .inr (.inr (.inr ⟨q, b, rfl, by omega, h30, (edOk_of hbad).2, hv, by unfold BoundR; rw [if_neg (by rw [hv]; simp), if_neg (by omega), Int.toNat_natCast, hb], by unfold refB; rw [if_neg h2, hb], bnd_nonneg hb⟩))
  · exact .inl ⟨h1, by unfold BoundR; rw [if_pos (by rw [h1]; decide), h1]⟩
  · exact .inr (.inl ⟨h3, by unfold BoundR; rw [if_pos (by rw [h3]; decide), h3]⟩)
theorem ord_ways (o : List Int) (h9 : o.length ≤ 9) : (1 ≤ o.length ∧ o.length ≤ 8 ∧ IsOrd o.length o) ∨ o.length = 0 ∨ o.length = 9 ∨ (1 ≤ o.length ∧ o.length ≤ 8 ∧ permB o.length o = false) := by
  by_cases h0 : o.length = 0
  · exact .inr (.inl h0)
  · by_cases h9' : o.length = 9
    · exact .inr (.inr (.inl h9'))
    · by_cases ho : IsOrd o.length o
      · exact .inl ⟨by omega, by omega, ho⟩
      · exact .inr (.inr (.inr ⟨by omega, by omega, by rw [← Bool.not_eq_true, permB_iff]; exact ho⟩))
set_option maxRecDepth 100000 in
set_option maxHeartbeats 32000000 in
theorem boundslaw_calls (n : Int) (A : Option Addr) (m c : Nat) (es : List (Int × Int)) (B : Option Addr) (m2 c2 : Nat) (zs : List Int) (w : World) (_hn : -9223372036854775808 ≤ n ∧ n ≤ 9223372036854775807)
    (hm : m = es.length) (hA : RdE w A es) (hl : m ≤ c) (hc : c ≤ 9223372036854775807) (hnA : A = none → c = 0) (_hwf : ∀ e ∈ es, (Lit.int .i64 e.1).wf = true ∧ (Lit.int .i64 e.2).wf = true)
    (hm2 : m2 = zs.length) (hB : Rd w B zs) (hl2 : m2 ≤ c2) (hc2 : c2 ≤ 9223372036854775807) (hnB : B = none → c2 = 0) (_hwf2 : ∀ e ∈ zs, (Lit.int .i64 e).wf = true) :
    Calls Try.prog 12 #[.int .i64 n, .slice A m c, .slice B m2 c2] w fun e w' => e = .returned (.bool true) ∧ Below w.heap.size w w' := by
  have CF := Lib.hid (few_calls A m c es w hm hA hl hc hnA)
  have CU := Lib.hid (fun (W : World) (h : Rd W B zs) => cutl_calls B m2 c2 zs W hm2 h hl2 hc2 hnB)
  have HB := Lib.hid hB
  clear hm hA hnA hm2 hB hnB _hwf _hwf2
  go_enter Try.func12, Try.ntmps12
  go_wp2_with fail
  refine CF.out.mono ?_
  rintro e w1 ⟨g, cg, rfl, ho, hB1⟩
  have hbd := ho.bd
  have HE := Lib.hid ho.rd
  have HB := Lib.hid (HB.out.below hB1)
  have HW := Lib.hid hB1
  obtain ⟨fs, hfs⟩ : ∃ fs, fs = es.take 31 := ⟨_, rfl⟩
  rw [← hfs] at hbd HE ⊢
  obtain ⟨L, hL⟩ : ∃ L, L = fs.length := ⟨_, rfl⟩
  rw [← hL] at hbd ⊢
  have HL := Lib.hid hL
  clear ho hB1 hL hfs
  go_wp2_with fail
  refine (CU.out _ HB.out).mono ?_
  rintro e w2 ⟨go, co, rfl, har, hB1⟩
  have hkc := har.bd
  have HAR := Lib.hid har.rd
  have HE := Lib.hid (HE.out.below hB1)
  have HW := Lib.hid (HW.out.trans (hB1.mono HW.out.size))
  obtain ⟨o, hfo⟩ : ∃ fs, fs = zs.take 9 := ⟨_, rfl⟩
  have h9 : o.length ≤ 9 := by rw [hfo, List.length_take]; omega
  rw [← hfo] at hkc HAR ⊢
  have HOW := Lib.hid (ord_ways o h9)
  obtain ⟨K, hK⟩ : ∃ L, L = o.length := ⟨_, rfl⟩
  rw [← hK] at hkc HOW h9 ⊢
  have HK := Lib.hid hK
  clear har hB1 hK hfo
  have CB := Lib.hid (fun (W : World) (hE : RdE W (some ⟨g, 0, none⟩) fs) => bound_calls n (some ⟨g, 0, none⟩) L cg fs W HL.out hE hbd.1 hbd.2)
  have CV := Lib.hid (fun (W : World) (hA : Rd W (some ⟨go, 0, none⟩) o) => Reverse_calls (some ⟨go, 0, none⟩) K co o W HK.out hA hkc.1 hkc.2)
  have CT := Lib.hid (fun (h : K ≤ 1000) (W : World) (hA : Rd W (some ⟨go, 0, none⟩) o) => Turned_calls (some ⟨go, 0, none⟩) K co o W HK.out hA hkc.1 hkc.2 h)
  have CG := Lib.hid (fun (W : World) (hE : RdE W (some ⟨g, 0, none⟩) fs) => graph_calls (some ⟨g, 0, none⟩) L cg fs n W HL.out hE hbd.1 hbd.2)
  have CP := Lib.hid (fun (h8 : K ≤ 1000) (W : World) (hA : Rd W (some ⟨go, 0, none⟩) o) => perm_calls (some ⟨go, 0, none⟩) K co o K W HK.out hA hkc.1 hkc.2 (by omega))
  rcases bound_ways4 n fs with ⟨hck, hbr⟩ | ⟨hck, hbr⟩ | ⟨k, hnk, hk, h30, hg, hck, hbr, hrf⟩ | ⟨k, b, hnk, hk, h30, hg, hck, hbr, hrf, hb0⟩
  · have HCK := Lib.hid hck
    have HBR := Lib.hid hbr
    clear hck hbr
    go_wp2_with fail
    refine (CB.out _ HE.out).mono ?_
    rintro e w3 ⟨rfl, hB1⟩
    rw [HBR.out]
    have HE := Lib.hid (HE.out.below hB1)
    have HAR := Lib.hid (HAR.out.below hB1)
    have HW := Lib.hid (HW.out.trans (hB1.mono HW.out.size))
    clear hB1
    go_wp2_with fail
    refine (CV.out _ HAR.out).mono ?_
    rintro e w4 ⟨hB1, h4⟩
    have HE := Lib.hid (HE.out.below hB1)
    have HAR := Lib.hid (HAR.out.below hB1)
    have HW := Lib.hid (HW.out.trans (hB1.mono HW.out.size))
    clear hB1
    rcases HOW.out with ⟨k1, k8, hord⟩ | hk0 | hk9 | ⟨k1, k8, hpm⟩
    · have hok : 1 ≤ o.length ∧ o.length ≤ 8 ∧ IsOrd o.length o := by rw [← HK.out]; exact ⟨k1, k8, hord⟩
      obtain ⟨_, _, _, gr, cr, rfl, harr⟩ := h4.resolve_right fun h => h.1 hok
      rw [← HK.out]
      have hkr := harr.bd
      rw [List.length_reverse, ← HK.out] at hkr
      have HRV := Lib.hid harr.rd
      have HPM := Lib.hid (perm_true hord)
      have t1 : decide ((K : Int) < 1) = false := decide_eq_false (by omega)
      have t2 : decide ((K : Int) > 8) = false := decide_eq_false (by omega)
      have HKR : Hid (K = o.reverse.length) := by show _ = _; rw [List.length_reverse]; exact HK.out
      clear h4 harr hord hok HOW
      go_wp2_with fail
      refine (CP.out (by omega) _ HAR.out).mono ?_
      rintro e w5 ⟨rfl, hB1⟩
      rw [HPM.out]
      have HE := Lib.hid (HE.out.below hB1)
      have HAR := Lib.hid (HAR.out.below hB1)
      have HRV := Lib.hid (HRV.out.below hB1)
      have HW := Lib.hid (HW.out.trans (hB1.mono HW.out.size))
      clear hB1
      go_wp2_with fail
      refine (CT.out (by omega) _ HAR.out).mono ?_
      rintro e w6 ⟨g6, c6, rfl, har6, hB1⟩
      rw [← HK.out]
      have hb6 := har6.bd
      rw [List.length_reverse, ← HK.out] at hb6
      have HC6 := Lib.hid har6.rd
      clear har6
      have HE := Lib.hid (HE.out.below hB1)
      have HRV := Lib.hid (HRV.out.below hB1)
      have HW := Lib.hid (HW.out.trans (hB1.mono HW.out.size))
      clear hB1
      go_wp2_with fail
      refine (same_true (xs := o.reverse) HKR.out HRV.out hkr.1 hkr.2 HKR.out HC6.out hb6.1 hb6.2).mono ?_
      rintro e w7 ⟨rfl, hB1⟩
      have HE := Lib.hid (HE.out.below hB1)
      have HW := Lib.hid (HW.out.trans (hB1.mono HW.out.size))
      clear hB1
      go_wp2_with fail
      refine (CG.out _ HE.out).mono ?_
      rintro e w10 ⟨rfl, hB1⟩
      rw [HCK.out]
      have HE := Lib.hid (HE.out.below hB1)
      have HW := Lib.hid (HW.out.trans (hB1.mono HW.out.size))
      clear hB1
      go_wp2_with fail
      refine (lives_calls _).mono ?_
      rintro e w12 ⟨rfl, hB1⟩
      have HW := Lib.hid (HW.out.trans (hB1.mono HW.out.size))
      clear hB1
      go_wp2_with fail
      go_ret
      exact ⟨rfl, HW.out⟩
    · have hno : ¬ (1 ≤ o.length ∧ o.length ≤ 8 ∧ IsOrd o.length o) := by rw [← HK.out]; omega
      have t1 : decide ((K : Int) < 1) = true := decide_eq_true (by omega)
      obtain ⟨_, rfl⟩ := h4.resolve_left fun h => hno ⟨h.1, h.2.1, h.2.2.1⟩
      clear h4 hno HOW hk0
      go_wp2_with fail
      refine (CG.out _ HE.out).mono ?_
      rintro e w10 ⟨rfl, hB1⟩
      rw [HCK.out]
      have HE := Lib.hid (HE.out.below hB1)
      have HW := Lib.hid (HW.out.trans (hB1.mono HW.out.size))
      clear hB1
      go_wp2_with fail
      refine (lives_calls _).mono ?_
      rintro e w12 ⟨rfl, hB1⟩
      have HW := Lib.hid (HW.out.trans (hB1.mono HW.out.size))
      clear hB1
      go_wp2_with fail
      go_ret
      exact ⟨rfl, HW.out⟩
    · have hno : ¬ (1 ≤ o.length ∧ o.length ≤ 8 ∧ IsOrd o.length o) := by rw [← HK.out]; omega
      have t1 : decide ((K : Int) < 1) = false := decide_eq_false (by omega)
      have t2 : decide ((K : Int) > 8) = true := decide_eq_true (by omega)
      obtain ⟨_, rfl⟩ := h4.resolve_left fun h => hno ⟨h.1, h.2.1, h.2.2.1⟩
      clear h4 hno HOW hk9
      go_wp2_with fail
      refine (CG.out _ HE.out).mono ?_
      rintro e w10 ⟨rfl, hB1⟩
      rw [HCK.out]
      have HE := Lib.hid (HE.out.below hB1)
      have HW := Lib.hid (HW.out.trans (hB1.mono HW.out.size))
      clear hB1
      go_wp2_with fail
      refine (lives_calls _).mono ?_
      rintro e w12 ⟨rfl, hB1⟩
      have HW := Lib.hid (HW.out.trans (hB1.mono HW.out.size))
      clear hB1
      go_wp2_with fail
      go_ret
      exact ⟨rfl, HW.out⟩
    · have hno : ¬ (1 ≤ o.length ∧ o.length ≤ 8 ∧ IsOrd o.length o) := by rw [← HK.out]; exact fun h => by rw [perm_true h.2.2] at hpm; cases hpm
      have t1 : decide ((K : Int) < 1) = false := decide_eq_false (by omega)
      have t2 : decide ((K : Int) > 8) = false := decide_eq_false (by omega)
      have HPM := Lib.hid hpm
      obtain ⟨_, rfl⟩ := h4.resolve_left fun h => hno ⟨h.1, h.2.1, h.2.2.1⟩
      clear h4 hno HOW hpm
      go_wp2_with fail
      refine (CP.out (by omega) _ HAR.out).mono ?_
      rintro e w5 ⟨rfl, hB1⟩
      rw [HPM.out]
      have HE := Lib.hid (HE.out.below hB1)
      have HW := Lib.hid (HW.out.trans (hB1.mono HW.out.size))
      clear hB1
      go_wp2_with fail
      refine (CG.out _ HE.out).mono ?_
      rintro e w10 ⟨rfl, hB1⟩
      rw [HCK.out]
      have HE := Lib.hid (HE.out.below hB1)
      have HW := Lib.hid (HW.out.trans (hB1.mono HW.out.size))
      clear hB1
      go_wp2_with fail
      refine (lives_calls _).mono ?_
      rintro e w12 ⟨rfl, hB1⟩
      have HW := Lib.hid (HW.out.trans (hB1.mono HW.out.size))
      clear hB1
      go_wp2_with fail
      go_ret
      exact ⟨rfl, HW.out⟩
  · have HCK := Lib.hid hck
    have HBR := Lib.hid hbr
    clear hck hbr
    go_wp2_with fail
    refine (CB.out _ HE.out).mono ?_
    rintro e w3 ⟨rfl, hB1⟩
    rw [HBR.out]
    have HE := Lib.hid (HE.out.below hB1)
    have HAR := Lib.hid (HAR.out.below hB1)
    have HW := Lib.hid (HW.out.trans (hB1.mono HW.out.size))
    clear hB1
    go_wp2_with fail
    refine (CV.out _ HAR.out).mono ?_
    rintro e w4 ⟨hB1, h4⟩
    have HE := Lib.hid (HE.out.below hB1)
    have HAR := Lib.hid (HAR.out.below hB1)
    have HW := Lib.hid (HW.out.trans (hB1.mono HW.out.size))
    clear hB1
    rcases HOW.out with ⟨k1, k8, hord⟩ | hk0 | hk9 | ⟨k1, k8, hpm⟩
    · have hok : 1 ≤ o.length ∧ o.length ≤ 8 ∧ IsOrd o.length o := by rw [← HK.out]; exact ⟨k1, k8, hord⟩
      obtain ⟨_, _, _, gr, cr, rfl, harr⟩ := h4.resolve_right fun h => h.1 hok
      rw [← HK.out]
      have hkr := harr.bd
      rw [List.length_reverse, ← HK.out] at hkr
      have HRV := Lib.hid harr.rd
      have HPM := Lib.hid (perm_true hord)
      have t1 : decide ((K : Int) < 1) = false := decide_eq_false (by omega)
      have t2 : decide ((K : Int) > 8) = false := decide_eq_false (by omega)
      have HKR : Hid (K = o.reverse.length) := by show _ = _; rw [List.length_reverse]; exact HK.out
      clear h4 harr hord hok HOW
      go_wp2_with fail
      refine (CP.out (by omega) _ HAR.out).mono ?_
      rintro e w5 ⟨rfl, hB1⟩
      rw [HPM.out]
      have HE := Lib.hid (HE.out.below hB1)
      have HAR := Lib.hid (HAR.out.below hB1)
      have HRV := Lib.hid (HRV.out.below hB1)
      have HW := Lib.hid (HW.out.trans (hB1.mono HW.out.size))
      clear hB1
      go_wp2_with fail
      refine (CT.out (by omega) _ HAR.out).mono ?_
      rintro e w6 ⟨g6, c6, rfl, har6, hB1⟩
      rw [← HK.out]
      have hb6 := har6.bd
      rw [List.length_reverse, ← HK.out] at hb6
      have HC6 := Lib.hid har6.rd
      clear har6
      have HE := Lib.hid (HE.out.below hB1)
      have HRV := Lib.hid (HRV.out.below hB1)
      have HW := Lib.hid (HW.out.trans (hB1.mono HW.out.size))
      clear hB1
      go_wp2_with fail
      refine (same_true (xs := o.reverse) HKR.out HRV.out hkr.1 hkr.2 HKR.out HC6.out hb6.1 hb6.2).mono ?_
      rintro e w7 ⟨rfl, hB1⟩
      have HE := Lib.hid (HE.out.below hB1)
      have HW := Lib.hid (HW.out.trans (hB1.mono HW.out.size))
      clear hB1
      go_wp2_with fail
      refine (CG.out _ HE.out).mono ?_
      rintro e w10 ⟨rfl, hB1⟩
      rw [HCK.out]
      have HE := Lib.hid (HE.out.below hB1)
      have HW := Lib.hid (HW.out.trans (hB1.mono HW.out.size))
      clear hB1
      go_wp2_with fail
      refine (lives_calls _).mono ?_
      rintro e w12 ⟨rfl, hB1⟩
      have HW := Lib.hid (HW.out.trans (hB1.mono HW.out.size))
      clear hB1
      go_wp2_with fail
      go_ret
      exact ⟨rfl, HW.out⟩
    · have hno : ¬ (1 ≤ o.length ∧ o.length ≤ 8 ∧ IsOrd o.length o) := by rw [← HK.out]; omega
      have t1 : decide ((K : Int) < 1) = true := decide_eq_true (by omega)
      obtain ⟨_, rfl⟩ := h4.resolve_left fun h => hno ⟨h.1, h.2.1, h.2.2.1⟩
      clear h4 hno HOW hk0
      go_wp2_with fail
      refine (CG.out _ HE.out).mono ?_
      rintro e w10 ⟨rfl, hB1⟩
      rw [HCK.out]
      have HE := Lib.hid (HE.out.below hB1)
      have HW := Lib.hid (HW.out.trans (hB1.mono HW.out.size))
      clear hB1
      go_wp2_with fail
      refine (lives_calls _).mono ?_
      rintro e w12 ⟨rfl, hB1⟩
      have HW := Lib.hid (HW.out.trans (hB1.mono HW.out.size))
      clear hB1
      go_wp2_with fail
      go_ret
      exact ⟨rfl, HW.out⟩
    · have hno : ¬ (1 ≤ o.length ∧ o.length ≤ 8 ∧ IsOrd o.length o) := by rw [← HK.out]; omega
      have t1 : decide ((K : Int) < 1) = false := decide_eq_false (by omega)
      have t2 : decide ((K : Int) > 8) = true := decide_eq_true (by omega)
      obtain ⟨_, rfl⟩ := h4.resolve_left fun h => hno ⟨h.1, h.2.1, h.2.2.1⟩
      clear h4 hno HOW hk9
      go_wp2_with fail
      refine (CG.out _ HE.out).mono ?_
      rintro e w10 ⟨rfl, hB1⟩
      rw [HCK.out]
      have HE := Lib.hid (HE.out.below hB1)
      have HW := Lib.hid (HW.out.trans (hB1.mono HW.out.size))
      clear hB1
      go_wp2_with fail
      refine (lives_calls _).mono ?_
      rintro e w12 ⟨rfl, hB1⟩
      have HW := Lib.hid (HW.out.trans (hB1.mono HW.out.size))
      clear hB1
      go_wp2_with fail
      go_ret
      exact ⟨rfl, HW.out⟩
    · have hno : ¬ (1 ≤ o.length ∧ o.length ≤ 8 ∧ IsOrd o.length o) := by rw [← HK.out]; exact fun h => by rw [perm_true h.2.2] at hpm; cases hpm
      have t1 : decide ((K : Int) < 1) = false := decide_eq_false (by omega)
      have t2 : decide ((K : Int) > 8) = false := decide_eq_false (by omega)
      have HPM := Lib.hid hpm
      obtain ⟨_, rfl⟩ := h4.resolve_left fun h => hno ⟨h.1, h.2.1, h.2.2.1⟩
      clear h4 hno HOW hpm
      go_wp2_with fail
      refine (CP.out (by omega) _ HAR.out).mono ?_
      rintro e w5 ⟨rfl, hB1⟩
      rw [HPM.out]
      have HE := Lib.hid (HE.out.below hB1)
      have HW := Lib.hid (HW.out.trans (hB1.mono HW.out.size))
      clear hB1
      go_wp2_with fail
      refine (CG.out _ HE.out).mono ?_
      rintro e w10 ⟨rfl, hB1⟩
      rw [HCK.out]
      have HE := Lib.hid (HE.out.below hB1)
      have HW := Lib.hid (HW.out.trans (hB1.mono HW.out.size))
      clear hB1
      go_wp2_with fail
      refine (lives_calls _).mono ?_
      rintro e w12 ⟨rfl, hB1⟩
      have HW := Lib.hid (HW.out.trans (hB1.mono HW.out.size))
      clear hB1
      go_wp2_with fail
      go_ret
      exact ⟨rfl, HW.out⟩
  · have HCK := Lib.hid hck
    have HBR := Lib.hid hbr
    have CR := Lib.hid (fun (W : World) (hE : RdE W (some ⟨g, 0, none⟩) fs) => rbound_calls k hk (some ⟨g, 0, none⟩) L cg fs W HL.out (by have := HL.out; omega) hg hE hbd.1 hbd.2)
    have HRF := Lib.hid hrf
    subst hnk
    clear hck hbr hrf hg h30
    go_wp2_with fail
    refine (CB.out _ HE.out).mono ?_
    rintro e w3 ⟨rfl, hB1⟩
    rw [HBR.out]
    have HE := Lib.hid (HE.out.below hB1)
    have HAR := Lib.hid (HAR.out.below hB1)
    have HW := Lib.hid (HW.out.trans (hB1.mono HW.out.size))
    clear hB1
    go_wp2_with fail
    refine (CV.out _ HAR.out).mono ?_
    rintro e w4 ⟨hB1, h4⟩
    have HE := Lib.hid (HE.out.below hB1)
    have HAR := Lib.hid (HAR.out.below hB1)
    have HW := Lib.hid (HW.out.trans (hB1.mono HW.out.size))
    clear hB1
    rcases HOW.out with ⟨k1, k8, hord⟩ | hk0 | hk9 | ⟨k1, k8, hpm⟩
    · have hok : 1 ≤ o.length ∧ o.length ≤ 8 ∧ IsOrd o.length o := by rw [← HK.out]; exact ⟨k1, k8, hord⟩
      obtain ⟨_, _, _, gr, cr, rfl, harr⟩ := h4.resolve_right fun h => h.1 hok
      rw [← HK.out]
      have hkr := harr.bd
      rw [List.length_reverse, ← HK.out] at hkr
      have HRV := Lib.hid harr.rd
      have HPM := Lib.hid (perm_true hord)
      have t1 : decide ((K : Int) < 1) = false := decide_eq_false (by omega)
      have t2 : decide ((K : Int) > 8) = false := decide_eq_false (by omega)
      have HKR : Hid (K = o.reverse.length) := by show _ = _; rw [List.length_reverse]; exact HK.out
      clear h4 harr hord hok HOW
      go_wp2_with fail
      refine (CP.out (by omega) _ HAR.out).mono ?_
      rintro e w5 ⟨rfl, hB1⟩
      rw [HPM.out]
      have HE := Lib.hid (HE.out.below hB1)
      have HAR := Lib.hid (HAR.out.below hB1)
      have HRV := Lib.hid (HRV.out.below hB1)
      have HW := Lib.hid (HW.out.trans (hB1.mono HW.out.size))
      clear hB1
      go_wp2_with fail
      refine (CT.out (by omega) _ HAR.out).mono ?_
      rintro e w6 ⟨g6, c6, rfl, har6, hB1⟩
      rw [← HK.out]
      have hb6 := har6.bd
      rw [List.length_reverse, ← HK.out] at hb6
      have HC6 := Lib.hid har6.rd
      clear har6
      have HE := Lib.hid (HE.out.below hB1)
      have HRV := Lib.hid (HRV.out.below hB1)
      have HW := Lib.hid (HW.out.trans (hB1.mono HW.out.size))
      clear hB1
      go_wp2_with fail
      refine (same_true (xs := o.reverse) HKR.out HRV.out hkr.1 hkr.2 HKR.out HC6.out hb6.1 hb6.2).mono ?_
      rintro e w7 ⟨rfl, hB1⟩
      have HE := Lib.hid (HE.out.below hB1)
      have HW := Lib.hid (HW.out.trans (hB1.mono HW.out.size))
      clear hB1
      go_wp2_with fail
      refine (CG.out _ HE.out).mono ?_
      rintro e w10 ⟨rfl, hB1⟩
      rw [HCK.out]
      have HE := Lib.hid (HE.out.below hB1)
      have HW := Lib.hid (HW.out.trans (hB1.mono HW.out.size))
      clear hB1
      go_wp2_with fail
      refine (CR.out _ HE.out).mono ?_
      rintro e w11 ⟨rfl, hB1⟩
      rw [HRF.out]
      have HW := Lib.hid (HW.out.trans (hB1.mono HW.out.size))
      clear hB1
      go_wp2_with fail
      refine (lives_calls _).mono ?_
      rintro e w12 ⟨rfl, hB1⟩
      have HW := Lib.hid (HW.out.trans (hB1.mono HW.out.size))
      clear hB1
      go_wp2_with fail
      go_ret
      exact ⟨rfl, HW.out⟩
    · have hno : ¬ (1 ≤ o.length ∧ o.length ≤ 8 ∧ IsOrd o.length o) := by rw [← HK.out]; omega
      have t1 : decide ((K : Int) < 1) = true := decide_eq_true (by omega)
      obtain ⟨_, rfl⟩ := h4.resolve_left fun h => hno ⟨h.1, h.2.1, h.2.2.1⟩
      clear h4 hno HOW hk0
      go_wp2_with fail
      refine (CG.out _ HE.out).mono ?_
      rintro e w10 ⟨rfl, hB1⟩
      rw [HCK.out]
      have HE := Lib.hid (HE.out.below hB1)
      have HW := Lib.hid (HW.out.trans (hB1.mono HW.out.size))
      clear hB1
      go_wp2_with fail
      refine (CR.out _ HE.out).mono ?_
      rintro e w11 ⟨rfl, hB1⟩
      rw [HRF.out]
      have HW := Lib.hid (HW.out.trans (hB1.mono HW.out.size))
      clear hB1
      go_wp2_with fail
      refine (lives_calls _).mono ?_
      rintro e w12 ⟨rfl, hB1⟩
      have HW := Lib.hid (HW.out.trans (hB1.mono HW.out.size))
      clear hB1
      go_wp2_with fail
      go_ret
      exact ⟨rfl, HW.out⟩
    · have hno : ¬ (1 ≤ o.length ∧ o.length ≤ 8 ∧ IsOrd o.length o) := by rw [← HK.out]; omega
      have t1 : decide ((K : Int) < 1) = false := decide_eq_false (by omega)
      have t2 : decide ((K : Int) > 8) = true := decide_eq_true (by omega)
      obtain ⟨_, rfl⟩ := h4.resolve_left fun h => hno ⟨h.1, h.2.1, h.2.2.1⟩
      clear h4 hno HOW hk9
      go_wp2_with fail
      refine (CG.out _ HE.out).mono ?_
      rintro e w10 ⟨rfl, hB1⟩
      rw [HCK.out]
      have HE := Lib.hid (HE.out.below hB1)
      have HW := Lib.hid (HW.out.trans (hB1.mono HW.out.size))
      clear hB1
      go_wp2_with fail
      refine (CR.out _ HE.out).mono ?_
      rintro e w11 ⟨rfl, hB1⟩
      rw [HRF.out]
      have HW := Lib.hid (HW.out.trans (hB1.mono HW.out.size))
      clear hB1
      go_wp2_with fail
      refine (lives_calls _).mono ?_
      rintro e w12 ⟨rfl, hB1⟩
      have HW := Lib.hid (HW.out.trans (hB1.mono HW.out.size))
      clear hB1
      go_wp2_with fail
      go_ret
      exact ⟨rfl, HW.out⟩
    · have hno : ¬ (1 ≤ o.length ∧ o.length ≤ 8 ∧ IsOrd o.length o) := by rw [← HK.out]; exact fun h => by rw [perm_true h.2.2] at hpm; cases hpm
      have t1 : decide ((K : Int) < 1) = false := decide_eq_false (by omega)
      have t2 : decide ((K : Int) > 8) = false := decide_eq_false (by omega)
      have HPM := Lib.hid hpm
      obtain ⟨_, rfl⟩ := h4.resolve_left fun h => hno ⟨h.1, h.2.1, h.2.2.1⟩
      clear h4 hno HOW hpm
      go_wp2_with fail
      refine (CP.out (by omega) _ HAR.out).mono ?_
      rintro e w5 ⟨rfl, hB1⟩
      rw [HPM.out]
      have HE := Lib.hid (HE.out.below hB1)
      have HW := Lib.hid (HW.out.trans (hB1.mono HW.out.size))
      clear hB1
      go_wp2_with fail
      refine (CG.out _ HE.out).mono ?_
      rintro e w10 ⟨rfl, hB1⟩
      rw [HCK.out]
      have HE := Lib.hid (HE.out.below hB1)
      have HW := Lib.hid (HW.out.trans (hB1.mono HW.out.size))
      clear hB1
      go_wp2_with fail
      refine (CR.out _ HE.out).mono ?_
      rintro e w11 ⟨rfl, hB1⟩
      rw [HRF.out]
      have HW := Lib.hid (HW.out.trans (hB1.mono HW.out.size))
      clear hB1
      go_wp2_with fail
      refine (lives_calls _).mono ?_
      rintro e w12 ⟨rfl, hB1⟩
      have HW := Lib.hid (HW.out.trans (hB1.mono HW.out.size))
      clear hB1
      go_wp2_with fail
      go_ret
      exact ⟨rfl, HW.out⟩
  · have HCK := Lib.hid hck
    have HBR := Lib.hid hbr
    have CR := Lib.hid (fun (W : World) (hE : RdE W (some ⟨g, 0, none⟩) fs) => rbound_calls k hk (some ⟨g, 0, none⟩) L cg fs W HL.out (by have := HL.out; omega) hg hE hbd.1 hbd.2)
    have HRF := Lib.hid hrf
    subst hnk
    clear hck hbr hrf hg h30
    go_wp2_with fail
    refine (CB.out _ HE.out).mono ?_
    rintro e w3 ⟨rfl, hB1⟩
    rw [HBR.out]
    have HE := Lib.hid (HE.out.below hB1)
    have HAR := Lib.hid (HAR.out.below hB1)
    have HW := Lib.hid (HW.out.trans (hB1.mono HW.out.size))
    clear hB1
    go_wp2_with fail
    refine (CV.out _ HAR.out).mono ?_
    rintro e w4 ⟨hB1, h4⟩
    have HE := Lib.hid (HE.out.below hB1)
    have HAR := Lib.hid (HAR.out.below hB1)
    have HW := Lib.hid (HW.out.trans (hB1.mono HW.out.size))
    clear hB1
    rcases HOW.out with ⟨k1, k8, hord⟩ | hk0 | hk9 | ⟨k1, k8, hpm⟩
    · have hok : 1 ≤ o.length ∧ o.length ≤ 8 ∧ IsOrd o.length o := by rw [← HK.out]; exact ⟨k1, k8, hord⟩
      obtain ⟨_, _, _, gr, cr, rfl, harr⟩ := h4.resolve_right fun h => h.1 hok
      rw [← HK.out]
      have hkr := harr.bd
      rw [List.length_reverse, ← HK.out] at hkr
      have HRV := Lib.hid harr.rd
      have HPM := Lib.hid (perm_true hord)
      have t1 : decide ((K : Int) < 1) = false := decide_eq_false (by omega)
      have t2 : decide ((K : Int) > 8) = false := decide_eq_false (by omega)
      have HKR : Hid (K = o.reverse.length) := by show _ = _; rw [List.length_reverse]; exact HK.out
      clear h4 harr hord hok HOW
      go_wp2_with fail
      refine (CP.out (by omega) _ HAR.out).mono ?_
      rintro e w5 ⟨rfl, hB1⟩
      rw [HPM.out]
      have HE := Lib.hid (HE.out.below hB1)
      have HAR := Lib.hid (HAR.out.below hB1)
      have HRV := Lib.hid (HRV.out.below hB1)
      have HW := Lib.hid (HW.out.trans (hB1.mono HW.out.size))
      clear hB1
      go_wp2_with fail
      refine (CT.out (by omega) _ HAR.out).mono ?_
      rintro e w6 ⟨g6, c6, rfl, har6, hB1⟩
      rw [← HK.out]
      have hb6 := har6.bd
      rw [List.length_reverse, ← HK.out] at hb6
      have HC6 := Lib.hid har6.rd
      clear har6
      have HE := Lib.hid (HE.out.below hB1)
      have HRV := Lib.hid (HRV.out.below hB1)
      have HW := Lib.hid (HW.out.trans (hB1.mono HW.out.size))
      clear hB1
      go_wp2_with fail
      refine (same_true (xs := o.reverse) HKR.out HRV.out hkr.1 hkr.2 HKR.out HC6.out hb6.1 hb6.2).mono ?_
      rintro e w7 ⟨rfl, hB1⟩
      have HE := Lib.hid (HE.out.below hB1)
      have HW := Lib.hid (HW.out.trans (hB1.mono HW.out.size))
      clear hB1
      go_wp2_with fail
      refine (CG.out _ HE.out).mono ?_
      rintro e w10 ⟨rfl, hB1⟩
      rw [HCK.out]
      have HE := Lib.hid (HE.out.below hB1)
      have HW := Lib.hid (HW.out.trans (hB1.mono HW.out.size))
      clear hB1
      go_wp2_with fail
      refine (CR.out _ HE.out).mono ?_
      rintro e w11 ⟨rfl, hB1⟩
      rw [HRF.out]
      have HW := Lib.hid (HW.out.trans (hB1.mono HW.out.size))
      clear hB1
      have t9 : decide (b ≥ 0) = true := decide_eq_true hb0
      go_wp2_with fail
      refine (lives_calls _).mono ?_
      rintro e w12 ⟨rfl, hB1⟩
      have HW := Lib.hid (HW.out.trans (hB1.mono HW.out.size))
      clear hB1
      go_wp2_with fail
      go_ret
      exact ⟨rfl, HW.out⟩
    · have hno : ¬ (1 ≤ o.length ∧ o.length ≤ 8 ∧ IsOrd o.length o) := by rw [← HK.out]; omega
      have t1 : decide ((K : Int) < 1) = true := decide_eq_true (by omega)
      obtain ⟨_, rfl⟩ := h4.resolve_left fun h => hno ⟨h.1, h.2.1, h.2.2.1⟩
      clear h4 hno HOW hk0
      go_wp2_with fail
      refine (CG.out _ HE.out).mono ?_
      rintro e w10 ⟨rfl, hB1⟩
      rw [HCK.out]
      have HE := Lib.hid (HE.out.below hB1)
      have HW := Lib.hid (HW.out.trans (hB1.mono HW.out.size))
      clear hB1
      go_wp2_with fail
      refine (CR.out _ HE.out).mono ?_
      rintro e w11 ⟨rfl, hB1⟩
      rw [HRF.out]
      have HW := Lib.hid (HW.out.trans (hB1.mono HW.out.size))
      clear hB1
      have t9 : decide (b ≥ 0) = true := decide_eq_true hb0
      go_wp2_with fail
      refine (lives_calls _).mono ?_
      rintro e w12 ⟨rfl, hB1⟩
      have HW := Lib.hid (HW.out.trans (hB1.mono HW.out.size))
      clear hB1
      go_wp2_with fail
      go_ret
      exact ⟨rfl, HW.out⟩
    · have hno : ¬ (1 ≤ o.length ∧ o.length ≤ 8 ∧ IsOrd o.length o) := by rw [← HK.out]; omega
      have t1 : decide ((K : Int) < 1) = false := decide_eq_false (by omega)
      have t2 : decide ((K : Int) > 8) = true := decide_eq_true (by omega)
      obtain ⟨_, rfl⟩ := h4.resolve_left fun h => hno ⟨h.1, h.2.1, h.2.2.1⟩
      clear h4 hno HOW hk9
      go_wp2_with fail
      refine (CG.out _ HE.out).mono ?_
      rintro e w10 ⟨rfl, hB1⟩
      rw [HCK.out]
      have HE := Lib.hid (HE.out.below hB1)
      have HW := Lib.hid (HW.out.trans (hB1.mono HW.out.size))
      clear hB1
      go_wp2_with fail
      refine (CR.out _ HE.out).mono ?_
      rintro e w11 ⟨rfl, hB1⟩
      rw [HRF.out]
      have HW := Lib.hid (HW.out.trans (hB1.mono HW.out.size))
      clear hB1
      have t9 : decide (b ≥ 0) = true := decide_eq_true hb0
      go_wp2_with fail
      refine (lives_calls _).mono ?_
      rintro e w12 ⟨rfl, hB1⟩
      have HW := Lib.hid (HW.out.trans (hB1.mono HW.out.size))
      clear hB1
      go_wp2_with fail
      go_ret
      exact ⟨rfl, HW.out⟩
    · have hno : ¬ (1 ≤ o.length ∧ o.length ≤ 8 ∧ IsOrd o.length o) := by rw [← HK.out]; exact fun h => by rw [perm_true h.2.2] at hpm; cases hpm
      have t1 : decide ((K : Int) < 1) = false := decide_eq_false (by omega)
      have t2 : decide ((K : Int) > 8) = false := decide_eq_false (by omega)
      have HPM := Lib.hid hpm
      obtain ⟨_, rfl⟩ := h4.resolve_left fun h => hno ⟨h.1, h.2.1, h.2.2.1⟩
      clear h4 hno HOW hpm
      go_wp2_with fail
      refine (CP.out (by omega) _ HAR.out).mono ?_
      rintro e w5 ⟨rfl, hB1⟩
      rw [HPM.out]
      have HE := Lib.hid (HE.out.below hB1)
      have HW := Lib.hid (HW.out.trans (hB1.mono HW.out.size))
      clear hB1
      go_wp2_with fail
      refine (CG.out _ HE.out).mono ?_
      rintro e w10 ⟨rfl, hB1⟩
      rw [HCK.out]
      have HE := Lib.hid (HE.out.below hB1)
      have HW := Lib.hid (HW.out.trans (hB1.mono HW.out.size))
      clear hB1
      go_wp2_with fail
      refine (CR.out _ HE.out).mono ?_
      rintro e w11 ⟨rfl, hB1⟩
      rw [HRF.out]
      have HW := Lib.hid (HW.out.trans (hB1.mono HW.out.size))
      clear hB1
      have t9 : decide (b ≥ 0) = true := decide_eq_true hb0
      go_wp2_with fail
      refine (lives_calls _).mono ?_
      rintro e w12 ⟨rfl, hB1⟩
      have HW := Lib.hid (HW.out.trans (hB1.mono HW.out.size))
      clear hB1
      go_wp2_with fail
      go_ret
      exact ⟨rfl, HW.out⟩
end Go.Proofs.Ytlidnhmagleehaa
