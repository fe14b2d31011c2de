/- What is proved: the examples (lives). No condition beyond those in each statement. -/
import Derived.Test.YthnhmfmlhlpggaaQ
import Derived.Test.YthnhmfmlhlpggaaR
import Derived.Test.YthnhmfmlhlpggaaS
import Derived.Test.YthnhmfmlhlpggaaT
import Derived.Test.YthnhmfmlhlpggaaY
import Derived.Test.YthnhmfmlhlpggaaPtL
namespace Go.Proofs.Ythnhmfmlhlpggaa
open Go.RowKit
set_option maxRecDepth 100000

theorem Guy_calls (w : World) : Calls Try.prog 37 #[.int .i64 6] w fun e w' => e = .returned (.tuple #[.int .i64 24, .int .i64 0]) ∧ Below w.heap.size w w' := by
  go_enter Try.func37, Try.ntmps37
  go_wp2_with fail
  refine (guy_calls w).mono ?_
  rintro e w1 ⟨rfl, hb⟩
  have HB := Lib.hid hb
  clear hb
  go_wp2_with fail
  go_ret2
  exact ⟨rfl, HB.out⟩
theorem live1 : Pt.SumlessR 4 2 = .ok [0, 1, 1, 0] := by
  have h := Pt.SumlessR_ok (n := 4) (r := 2) (by omega)
  have h2 : (Pt.sumlessL 4 2).head? = some [0, 1, 1, 0] := by decide +kernel
  rw [h2] at h
  exact h
def pathE : List (Int × Int) := [(0, 1), (1, 2)]
def spanE : List (Int × Int) := [(0, 2), (1, 5)]
theorem live2 : depS spanE 2 = 2 := by decide +kernel
theorem live3 : leastF (costB pathE) 3 = some (1, (leastF (costB pathE) 3).get!.2) := by decide +kernel
theorem pathC : checkF 3 pathE = 0 := by decide +kernel
theorem spOk : SpOk spanE := ⟨by decide, by decide⟩
theorem rdE_two (w : World) (a b c d : Int) (t : Nat) : RdE (w.alloc (.cells #[.int .i64 a, .int .i64 b, .int .i64 c, .int .i64 d] t)) (some ⟨w.heap.size, 0, none⟩) [(a, b), (c, d)] := fun _ => by
  refine ⟨_, 0, rfl, by simp, fun i hi => ?_⟩
  have : i = 0 ∨ i = 1 := by simp at hi; omega
  rcases this with rfl | rfl <;> refine ⟨?_, ?_⟩ <;> (rw [World.cell?_alloc_at _ _ _ _ rfl]; rfl)
theorem FindR.ok {w0 w' : World} {n : Int} {es : List (Int × Int)} {cost : List Int → Int} {e : Ending} {b : Int} {p : List Int} (hc : checkF n es = 0) (hl : leastF cost n.toNat = some (b, p)) (h : FindR w0 n es cost e w') :
    ∃ g c, e = .returned (.tuple #[.int .i64 b, .slice (some ⟨g, 0, none⟩) p.length c, .int .i64 0]) ∧ Arr w' w0.heap.size g c p ∧ Below w0.heap.size w0 w' := by
  obtain ⟨h1, h2⟩ := h
  rw [if_neg (by rw [hc]; simp), hl] at h2
  obtain ⟨g, c, h3, h4⟩ := h2
  exact ⟨g, c, h3, h4, h1⟩
theorem same_true {A B : Option Addr} {n c m d : Nat} {xs : List Int} {w : World} (hn : n = xs.length) (hA : Rd w A xs) (hl : n ≤ c) (hc : c ≤ 9223372036854775807) (hm : m = xs.length) (hB : Rd w B xs) (hl2 : m ≤ d) (hd : d ≤ 9223372036854775807) :
    Calls Try.prog 38 #[.slice A n c, .slice B m d] w fun e w' => e = .returned (.bool true) ∧ Below w.heap.size w w' := by
  refine (same_calls A B n c m d xs xs w hn hA hl hc hm hB hl2 hd).mono ?_
  rintro e w' ⟨rfl, hB⟩
  exact ⟨ret_bool (by simp), hB⟩
set_option maxHeartbeats 8000000 in
theorem lives_calls (w : World) : Calls Try.prog 9 #[] w fun e w' => e = .returned (.bool true) ∧ Below w.heap.size w w' := by
  go_enter Try.func9, Try.ntmps9
  go_wp2_with fail
  refine (Pt.sumless_calls 4 2 w).mono ?_
  rw [live1]
  rintro e w1 ⟨A1, n1, c1, rfl, hn1, hl1, hc1, hA1, hB1⟩
  obtain rfl : n1 = 4 := hn1
  have HW := Lib.hid hB1
  have HA : Hid (Rd w1 A1 [0, 1, 1, 0]) := hA1
  clear hA1 hB1
  go_wp2_with fail
  refine (ones_calls w1).mono ?_
  rintro e w2 ⟨rfl, hb⟩
  have HW := Lib.hid (HW.out.trans (hb.mono HW.out.size))
  have HA := Lib.hid (HA.out.below hb)
  clear hb
  go_wp2_with fail
  have hb0 : Below w2.heap.size w2 (w2.alloc (.cells #[.int .i64 0, .int .i64 2, .int .i64 1, .int .i64 5] 60)) := (Below.refl _ _).alloc (Nat.le_refl _) _
  refine (depth_calls (some ⟨w2.heap.size, 0, none⟩) 2 2 spanE _ rfl (rdE_two w2 0 2 1 5 60) (Nat.le_refl _) (by decide) spOk).mono ?_
  rw [live2]
  rintro e w3 ⟨rfl, hb⟩
  have hb1 := hb0.trans (hb.mono hb0.size)
  have HW := Lib.hid (HW.out.trans (hb1.mono HW.out.size))
  have HA := Lib.hid (HA.out.below hb1)
  clear hb hb0 hb1
  go_wp2_with fail
  refine (four7_calls w3).mono ?_
  rintro e w4 ⟨v4, rfl, hs4, hb⟩
  obtain ⟨A4, n4, c4, rfl, hn4, hl4, hc4, hA4⟩ := hs4.parts
  obtain rfl : n4 = 4 := hn4
  have HA4 := Lib.hid hA4
  have HW := Lib.hid (HW.out.trans (hb.mono HW.out.size))
  have HA := Lib.hid (HA.out.below hb)
  clear hb hs4 hA4
  go_wp2_with fail
  have hb0 : Below w4.heap.size w4 (w4.alloc (.cells #[.int .i64 0, .int .i64 1, .int .i64 0] 3)) := (Below.refl _ _).alloc (Nat.le_refl _) _
  refine (accepts_calls w4.heap.size 3 _ (rd_lit w4 [0, 1, 0] _ rfl) (Nat.le_refl _) (by decide)).mono ?_
  rintro e w5 ⟨rfl, hb⟩
  have hb1 := hb0.trans (hb.mono hb0.size)
  have HW := Lib.hid (HW.out.trans (hb1.mono HW.out.size))
  have HA := Lib.hid (HA.out.below hb1)
  have HA4 := Lib.hid (HA4.out.below hb1)
  clear hb hb0 hb1
  go_wp2_with fail
  refine (waksman_calls w5).mono ?_
  rintro e w6 ⟨rfl, rfl⟩
  go_wp2_with fail
  have hb0 : Below w5.heap.size w5 (w5.alloc (.cells #[.int .i64 0, .int .i64 1, .int .i64 1, .int .i64 2] 26)) := (Below.refl _ _).alloc (Nat.le_refl _) _
  refine ((Band_calls 3 (some ⟨w5.heap.size, 0, none⟩) 2 2 pathE _ rfl (rdE_two w5 0 1 1 2 26) (Nat.le_refl _) (by decide)).mono fun e w' h => h.ok pathC live3).mono ?_
  rintro e w7 ⟨g7, c7, rfl, _, hb⟩
  have hb1 := hb0.trans (hb.mono hb0.size)
  have HW := Lib.hid (HW.out.trans (hb1.mono HW.out.size))
  have HA := Lib.hid (HA.out.below hb1)
  have HA4 := Lib.hid (HA4.out.below hb1)
  clear hb hb0 hb1
  go_wp2_with fail
  refine (Guy_calls w7).mono ?_
  rintro e w8 ⟨rfl, hb⟩
  have HW := Lib.hid (HW.out.trans (hb.mono HW.out.size))
  have HA := Lib.hid (HA.out.below hb)
  have HA4 := Lib.hid (HA4.out.below hb)
  clear hb
  go_wp2_with fail
  have hb0 : Below w8.heap.size w8 (w8.alloc (.cells #[.int .i64 0, .int .i64 1, .int .i64 1, .int .i64 0] 3)) := (Below.refl _ _).alloc (Nat.le_refl _) _
  refine (same_true (xs := [0, 1, 1, 0]) rfl (HA.out.below hb0) hl1 hc1 rfl (rd_lit w8 [0, 1, 1, 0] _ rfl) (Nat.le_refl _) (by decide)).mono ?_
  rintro e w9 ⟨rfl, hb⟩
  have hb1 := hb0.trans (hb.mono hb0.size)
  have HW := Lib.hid (HW.out.trans (hb1.mono HW.out.size))
  have HA4 := Lib.hid (HA4.out.below hb1)
  clear hb hb0 hb1
  go_wp2_with fail
  have hb0 : Below w9.heap.size w9 (w9.alloc (.cells #[.int .i64 2, .int .i64 1, .int .i64 1, .int .i64 1] 3)) := (Below.refl _ _).alloc (Nat.le_refl _) _
  refine (same_true (xs := [2, 1, 1, 1]) rfl (HA4.out.below hb0) hl4 hc4 rfl (rd_lit w9 [2, 1, 1, 1] _ rfl) (Nat.le_refl _) (by decide)).mono ?_
  rintro e w10 ⟨rfl, hb⟩
  have hb1 := hb0.trans (hb.mono hb0.size)
  have HW := Lib.hid (HW.out.trans (hb1.mono HW.out.size))
  clear hb hb0 hb1
  go_wp2_with fail
  go_ret
  exact ⟨rfl, HW.out⟩
end Go.Proofs.Ythnhmfmlhlpggaa
