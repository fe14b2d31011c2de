/- What is proved: the examples of the document (contracts of functions of paint, and what they need). No condition beyond those in each statement. -/
import Derived.Test.YtplafgmceggcnaaU
namespace Go.Proofs.Ytplafgmceggcnaa
open Go.RowKit

theorem Sl.parts {w : World} {v : Value} {xs : List Int} (h : Sl w v xs) : ∃ A n c, v = .slice A n c ∧ n = xs.length ∧ n ≤ c ∧ c ≤ 9223372036854775807 ∧ Rd w A xs := by
  obtain ⟨A, c, rfl, h1, h2, _, h3⟩ := h
  exact ⟨A, _, c, rfl, rfl, h1, h2, h3⟩
theorem OptR.ok {w : World} {r : Option (List Int) × Int} {xs : List Int} (hr : r = (some xs, 0)) {e : Ending} {w' : World} (h : OptR w r e w') : ResP w (.ok xs) e w' := by
  subst hr
  obtain ⟨v, rfl, ⟨_, hs⟩, hb⟩ := h
  obtain ⟨A, n, c, rfl, h1, h2, h3, h4⟩ := hs.parts
  exact ⟨A, n, c, rfl, h1, h2, h3, h4, hb⟩
theorem ResP.eq {w : World} {r s : Except Int (List Int)} (hr : r = s) {e : Ending} {w' : World} (h : ResP w r e w') : ResP w s e w' := hr ▸ h
theorem rd_lit (w : World) (xs : List Int) (b : Nat) (hb : b = w.heap.size) : Rd (w.alloc (.cells (xs.map (Value.int .i64)).toArray 3)) (some ⟨b, 0, none⟩) xs := fun _ => by
  subst hb
  refine ⟨_, 0, rfl, by simp, fun i hi => ?_⟩
  rw [World.cell?_alloc_at _ _ _ _ rfl]
  simp [hi]

theorem live1 : AvoidR 5 3 3 = .ok [0, 0, 1, 1, 1, 0, 1, 1, 0, 0] := by kernel_rfl
theorem live2 : CliqueR 3 [0, 0, 0] 0 3 = (some [0, 1, 2], 0) := by kernel_rfl
theorem live3 : SumlessR 4 2 = .ok [0, 1, 1, 0] := by kernel_rfl
theorem live4 : SumR [0, 0] = (some [1, 1], 0) := by kernel_rfl
theorem live5 : SteplessR 8 2 3 = .ok [0, 0, 1, 1, 0, 0, 1, 1] := by kernel_rfl
theorem live6 : ProgR [0, 1, 0, 1, 0] 3 = (some [1, 2], 0) := by kernel_rfl
set_option maxHeartbeats 4000000 in
theorem lives_calls (w : World) : Calls Try.prog 19 #[] w fun e w' => e = .returned (.bool true) ∧ Below w.heap.size w w' := by
  go_enter Try.func19, Try.ntmps19
  go_wp2_with fail
  refine ((avoid_calls 5 3 3 _).mono (fun _ _ h => h.eq live1)).mono ?_
  rintro e w1 ⟨A1, n1, c1, rfl, hn, hc1, hc2, hrd, hB⟩
  have HN1 := Lib.hid hn
  have HR1 := Lib.hid hrd
  have HB1 := Lib.hid hB
  have HW1 := Lib.hid hB
  have hc1_1 := hc1
  have hc2_1 := hc2
  clear hn hc1 hc2 hrd hB
  go_wp2_with fail
  refine ((Clique_calls 3 0 3 _ _ _ [0, 0, 0] _ rfl (rd_lit w1 [0, 0, 0] _ rfl) (Nat.le_refl _) (by decide)).mono (fun _ _ h => OptR.ok live2 h)).mono ?_
  rintro e w2 ⟨A2, n2, c2, rfl, hn, hc1, hc2, hrd, hB⟩
  have HN2 := Lib.hid hn
  have HR2 := Lib.hid hrd
  have HB2 : Hid (Below w1.heap.size w1 w2) := ((Below.refl _ _).alloc (Nat.le_refl _) _).trans (hB.mono (by simp))
  have HW2 := Lib.hid (HW1.out.trans (HB2.out.mono HW1.out.size))
  have HR1' := Lib.hid (HR1.out.below HB2.out)
  clear HR1
  have HR1 := Lib.hid HR1'.out
  clear HR1'
  have hc1_2 := hc1
  have hc2_2 := hc2
  clear hn hc1 hc2 hrd hB
  go_wp2_with fail
  refine ((sumless_calls 4 2 _).mono (fun _ _ h => h.eq live3)).mono ?_
  rintro e w3 ⟨A3, n3, c3, rfl, hn, hc1, hc2, hrd, hB⟩
  have HN3 := Lib.hid hn
  have HR3 := Lib.hid hrd
  have HB3 := Lib.hid hB
  have HW3 := Lib.hid (HW2.out.trans (HB3.out.mono HW2.out.size))
  have HR1' := Lib.hid (HR1.out.below HB3.out)
  clear HR1
  have HR1 := Lib.hid HR1'.out
  clear HR1'
  have HR2' := Lib.hid (HR2.out.below HB3.out)
  clear HR2
  have HR2 := Lib.hid HR2'.out
  clear HR2'
  have hc1_3 := hc1
  have hc2_3 := hc2
  clear hn hc1 hc2 hrd hB
  go_wp2_with fail
  refine ((Sum_calls _ _ _ [0, 0] _ rfl (rd_lit w3 [0, 0] _ rfl) (Nat.le_refl _) (by decide)).mono (fun _ _ h => OptR.ok live4 h)).mono ?_
  rintro e w4 ⟨A4, n4, c4, rfl, hn, hc1, hc2, hrd, hB⟩
  have HN4 := Lib.hid hn
  have HR4 := Lib.hid hrd
  have HB4 : Hid (Below w3.heap.size w3 w4) := ((Below.refl _ _).alloc (Nat.le_refl _) _).trans (hB.mono (by simp))
  have HW4 := Lib.hid (HW3.out.trans (HB4.out.mono HW3.out.size))
  have HR1' := Lib.hid (HR1.out.below HB4.out)
  clear HR1
  have HR1 := Lib.hid HR1'.out
  clear HR1'
  have HR2' := Lib.hid (HR2.out.below HB4.out)
  clear HR2
  have HR2 := Lib.hid HR2'.out
  clear HR2'
  have HR3' := Lib.hid (HR3.out.below HB4.out)
  clear HR3
  have HR3 := Lib.hid HR3'.out
  clear HR3'
  have hc1_4 := hc1
  have hc2_4 := hc2
  clear hn hc1 hc2 hrd hB
  go_wp2_with fail
  refine ((stepless_calls 8 2 3 _).mono (fun _ _ h => h.eq live5)).mono ?_
  rintro e w5 ⟨A5, n5, c5, rfl, hn, hc1, hc2, hrd, hB⟩
  have HN5 := Lib.hid hn
  have HR5 := Lib.hid hrd
  have HB5 := Lib.hid hB
  have HW5 := Lib.hid (HW4.out.trans (HB5.out.mono HW4.out.size))
  have HR1' := Lib.hid (HR1.out.below HB5.out)
  clear HR1
  have HR1 := Lib.hid HR1'.out
  clear HR1'
  have HR2' := Lib.hid (HR2.out.below HB5.out)
  clear HR2
  have HR2 := Lib.hid HR2'.out
  clear HR2'
  have HR3' := Lib.hid (HR3.out.below HB5.out)
  clear HR3
  have HR3 := Lib.hid HR3'.out
  clear HR3'
  have HR4' := Lib.hid (HR4.out.below HB5.out)
  clear HR4
  have HR4 := Lib.hid HR4'.out
  clear HR4'
  have hc1_5 := hc1
  have hc2_5 := hc2
  clear hn hc1 hc2 hrd hB
  go_wp2_with fail
  refine ((Progression_calls _ _ _ [0, 1, 0, 1, 0] 3 _ rfl (rd_lit w5 [0, 1, 0, 1, 0] _ rfl) (Nat.le_refl _) (by decide)).mono (fun _ _ h => OptR.ok live6 h)).mono ?_
  rintro e w6 ⟨A6, n6, c6, rfl, hn, hc1, hc2, hrd, hB⟩
  have HN6 := Lib.hid hn
  have HR6 := Lib.hid hrd
  have HB6 : Hid (Below w5.heap.size w5 w6) := ((Below.refl _ _).alloc (Nat.le_refl _) _).trans (hB.mono (by simp))
  have HW6 := Lib.hid (HW5.out.trans (HB6.out.mono HW5.out.size))
  have HR1' := Lib.hid (HR1.out.below HB6.out)
  clear HR1
  have HR1 := Lib.hid HR1'.out
  clear HR1'
  have HR2' := Lib.hid (HR2.out.below HB6.out)
  clear HR2
  have HR2 := Lib.hid HR2'.out
  clear HR2'
  have HR3' := Lib.hid (HR3.out.below HB6.out)
  clear HR3
  have HR3 := Lib.hid HR3'.out
  clear HR3'
  have HR4' := Lib.hid (HR4.out.below HB6.out)
  clear HR4
  have HR4 := Lib.hid HR4'.out
  clear HR4'
  have HR5' := Lib.hid (HR5.out.below HB6.out)
  clear HR5
  have HR5 := Lib.hid HR5'.out
  clear HR5'
  have hc1_6 := hc1
  have hc2_6 := hc2
  clear hn hc1 hc2 hrd hB
  go_wp2_with fail
  refine (same_calls _ _ _ _ _ _ [0, 0, 1, 1, 1, 0, 1, 1, 0, 0] [0, 0, 1, 1, 1, 0, 1, 1, 0, 0] _ HN1.out (HR1.out.below ((Below.refl w6.heap.size w6).alloc (Nat.le_refl _) _)) hc1_1 hc2_1 rfl (rd_lit w6 [0, 0, 1, 1, 1, 0, 1, 1, 0, 0] _ rfl) (Nat.le_refl _) (by decide)).mono ?_
  rintro e v1 ⟨rfl, hB⟩
  have HC1 : Hid (Below w6.heap.size w6 v1) := ((Below.refl _ _).alloc (Nat.le_refl _) _).trans (hB.mono (by simp))
  have HV1 := Lib.hid (HW6.out.trans (HC1.out.mono HW6.out.size))
  clear hB
  rw [decide_eq_true rfl]
  have HR2' := Lib.hid (HR2.out.below HC1.out)
  clear HR2
  have HR2 := Lib.hid HR2'.out
  clear HR2'
  have HR3' := Lib.hid (HR3.out.below HC1.out)
  clear HR3
  have HR3 := Lib.hid HR3'.out
  clear HR3'
  have HR4' := Lib.hid (HR4.out.below HC1.out)
  clear HR4
  have HR4 := Lib.hid HR4'.out
  clear HR4'
  have HR5' := Lib.hid (HR5.out.below HC1.out)
  clear HR5
  have HR5 := Lib.hid HR5'.out
  clear HR5'
  have HR6' := Lib.hid (HR6.out.below HC1.out)
  clear HR6
  have HR6 := Lib.hid HR6'.out
  clear HR6'
  go_wp2_with fail
  refine (same_calls _ _ _ _ _ _ [0, 1, 2] [0, 1, 2] _ HN2.out (HR2.out.below ((Below.refl v1.heap.size v1).alloc (Nat.le_refl _) _)) hc1_2 hc2_2 rfl (rd_lit v1 [0, 1, 2] _ rfl) (Nat.le_refl _) (by decide)).mono ?_
  rintro e v2 ⟨rfl, hB⟩
  have HC2 : Hid (Below v1.heap.size v1 v2) := ((Below.refl _ _).alloc (Nat.le_refl _) _).trans (hB.mono (by simp))
  have HV2 := Lib.hid (HV1.out.trans (HC2.out.mono HV1.out.size))
  clear hB
  rw [decide_eq_true rfl]
  have HR3' := Lib.hid (HR3.out.below HC2.out)
  clear HR3
  have HR3 := Lib.hid HR3'.out
  clear HR3'
  have HR4' := Lib.hid (HR4.out.below HC2.out)
  clear HR4
  have HR4 := Lib.hid HR4'.out
  clear HR4'
  have HR5' := Lib.hid (HR5.out.below HC2.out)
  clear HR5
  have HR5 := Lib.hid HR5'.out
  clear HR5'
  have HR6' := Lib.hid (HR6.out.below HC2.out)
  clear HR6
  have HR6 := Lib.hid HR6'.out
  clear HR6'
  go_wp2_with fail
  refine (same_calls _ _ _ _ _ _ [0, 1, 1, 0] [0, 1, 1, 0] _ HN3.out (HR3.out.below ((Below.refl v2.heap.size v2).alloc (Nat.le_refl _) _)) hc1_3 hc2_3 rfl (rd_lit v2 [0, 1, 1, 0] _ rfl) (Nat.le_refl _) (by decide)).mono ?_
  rintro e v3 ⟨rfl, hB⟩
  have HC3 : Hid (Below v2.heap.size v2 v3) := ((Below.refl _ _).alloc (Nat.le_refl _) _).trans (hB.mono (by simp))
  have HV3 := Lib.hid (HV2.out.trans (HC3.out.mono HV2.out.size))
  clear hB
  rw [decide_eq_true rfl]
  have HR4' := Lib.hid (HR4.out.below HC3.out)
  clear HR4
  have HR4 := Lib.hid HR4'.out
  clear HR4'
  have HR5' := Lib.hid (HR5.out.below HC3.out)
  clear HR5
  have HR5 := Lib.hid HR5'.out
  clear HR5'
  have HR6' := Lib.hid (HR6.out.below HC3.out)
  clear HR6
  have HR6 := Lib.hid HR6'.out
  clear HR6'
  go_wp2_with fail
  refine (same_calls _ _ _ _ _ _ [1, 1] [1, 1] _ HN4.out (HR4.out.below ((Below.refl v3.heap.size v3).alloc (Nat.le_refl _) _)) hc1_4 hc2_4 rfl (rd_lit v3 [1, 1] _ rfl) (Nat.le_refl _) (by decide)).mono ?_
  rintro e v4 ⟨rfl, hB⟩
  have HC4 : Hid (Below v3.heap.size v3 v4) := ((Below.refl _ _).alloc (Nat.le_refl _) _).trans (hB.mono (by simp))
  have HV4 := Lib.hid (HV3.out.trans (HC4.out.mono HV3.out.size))
  clear hB
  rw [decide_eq_true rfl]
  have HR5' := Lib.hid (HR5.out.below HC4.out)
  clear HR5
  have HR5 := Lib.hid HR5'.out
  clear HR5'
  have HR6' := Lib.hid (HR6.out.below HC4.out)
  clear HR6
  have HR6 := Lib.hid HR6'.out
  clear HR6'
  go_wp2_with fail
  refine (same_calls _ _ _ _ _ _ [0, 0, 1, 1, 0, 0, 1, 1] [0, 0, 1, 1, 0, 0, 1, 1] _ HN5.out (HR5.out.below ((Below.refl v4.heap.size v4).alloc (Nat.le_refl _) _)) hc1_5 hc2_5 rfl (rd_lit v4 [0, 0, 1, 1, 0, 0, 1, 1] _ rfl) (Nat.le_refl _) (by decide)).mono ?_
  rintro e v5 ⟨rfl, hB⟩
  have HC5 : Hid (Below v4.heap.size v4 v5) := ((Below.refl _ _).alloc (Nat.le_refl _) _).trans (hB.mono (by simp))
  have HV5 := Lib.hid (HV4.out.trans (HC5.out.mono HV4.out.size))
  clear hB
  rw [decide_eq_true rfl]
  have HR6' := Lib.hid (HR6.out.below HC5.out)
  clear HR6
  have HR6 := Lib.hid HR6'.out
  clear HR6'
  go_wp2_with fail
  refine (same_calls _ _ _ _ _ _ [1, 2] [1, 2] _ HN6.out (HR6.out.below ((Below.refl v5.heap.size v5).alloc (Nat.le_refl _) _)) hc1_6 hc2_6 rfl (rd_lit v5 [1, 2] _ rfl) (Nat.le_refl _) (by decide)).mono ?_
  rintro e v6 ⟨rfl, hB⟩
  have HC6 : Hid (Below v5.heap.size v5 v6) := ((Below.refl _ _).alloc (Nat.le_refl _) _).trans (hB.mono (by simp))
  have HV6 := Lib.hid (HV5.out.trans (HC6.out.mono HV5.out.size))
  clear hB
  rw [decide_eq_true rfl]
  go_wp2_with fail
  go_ret
  exact ⟨rfl, HV6.out⟩
end Go.Proofs.Ytplafgmceggcnaa
