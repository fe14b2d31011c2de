/- What is proved: the examples (lives). No condition beyond those in each statement. -/
import Derived.Test.YtlidnhmagleehaaQ
namespace Go.Proofs.Ytlidnhmagleehaa
open Go.RowKit

def starE : List (Int × Int) := [(0, 1), (0, 2), (0, 3)]
def ringE : List (Int × Int) := [(0, 1), (1, 2), (2, 3), (3, 0)]
theorem live1 : leastF (costB starE) 4 = some (2, [1, 0, 2, 3]) := by decide +kernel
theorem live2 : leastF (costC starE) 4 = some (2, [1, 0, 2, 3]) := by decide +kernel
theorem live3 : leastF (costS starE) 4 = some (4, [1, 0, 2, 3]) := by decide +kernel
theorem live4 : BoundR 4 ringE = (2, 0) := by decide +kernel
theorem live5 : MeasR 4 starE [0, 1, 2, 3] = (3, 3, 6, 0) := by decide +kernel
theorem starC : checkF 4 starE = 0 := by decide +kernel
theorem rdE_star (w : World) : RdE (w.alloc (.cells #[.int .i64 0, .int .i64 1, .int .i64 0, .int .i64 2, .int .i64 0, .int .i64 3] 55)) (some ⟨w.heap.size, 0, none⟩) starE := fun _ => by
  refine ⟨_, 0, rfl, by simp, fun i hi => ?_⟩
  have : i = 0 ∨ i = 1 ∨ i = 2 := by simp [starE] at hi; omega
  rcases this with rfl | rfl | rfl <;> refine ⟨?_, ?_⟩ <;> (rw [World.cell?_alloc_at _ _ _ _ rfl]; rfl)
theorem rdE_ring (w : World) : RdE (w.alloc (.cells #[.int .i64 0, .int .i64 1, .int .i64 1, .int .i64 2, .int .i64 2, .int .i64 3, .int .i64 3, .int .i64 0] 55)) (some ⟨w.heap.size, 0, none⟩) ringE := fun _ => by
  refine ⟨_, 0, rfl, by simp, fun i hi => ?_⟩
  have : i = 0 ∨ i = 1 ∨ i = 2 ∨ i = 3 := by simp [ringE] at hi; omega
  rcases this with rfl | rfl | rfl | rfl <;> refine ⟨?_, ?_⟩ <;> (rw [World.cell?_alloc_at _ _ _ _ rfl]; rfl)
theorem FindR.ok {w0 w' : World} {n : Int} {es : List (Int × Int)} {cost : List Int → Int} {e : Ending} {b : Int} {p : List Int} (hc : checkF n es = 0) (hl : leastF cost n.toNat = some (b, p)) (h : FindR w0 n es cost e w') :
    ∃ g c, e = .returned (.tuple #[.int .i64 b, .slice (some ⟨g, 0, none⟩) p.length c, .int .i64 0]) ∧ Arr w' w0.heap.size g c p ∧ Below w0.heap.size w0 w' := by
  obtain ⟨h1, h2⟩ := h
  rw [if_neg (by rw [hc]; simp), hl] at h2
  obtain ⟨g, c, h3, h4⟩ := h2
  exact ⟨g, c, h3, h4, h1⟩
theorem same_true {A B : Option Addr} {n c m d : Nat} {xs : List Int} {w : World} (hn : n = xs.length) (hA : Rd w A xs) (hl : n ≤ c) (hc : c ≤ 9223372036854775807) (hm : m = xs.length) (hB : Rd w B xs) (hl2 : m ≤ d) (hd : d ≤ 9223372036854775807) :
    Calls Try.prog 21 #[.slice A n c, .slice B m d] w fun e w' => e = .returned (.bool true) ∧ Below w.heap.size w w' := by
  refine (same_calls A B n c m d xs xs w hn hA hl hc hm hB hl2 hd).mono ?_
  rintro e w' ⟨rfl, hB⟩
  exact ⟨ret_bool (by simp), hB⟩

set_option maxRecDepth 100000 in
set_option maxHeartbeats 8000000 in
theorem lives_calls (w : World) : Calls Try.prog 16 #[] w fun e w' => e = .returned (.bool true) ∧ Below w.heap.size w w' := by
  go_enter Try.func16, Try.ntmps16
  go_wp2_with fail
  obtain ⟨wa, hwa⟩ : ∃ q, q = w.alloc (.cells #[.int .i64 0, .int .i64 1, .int .i64 0, .int .i64 2, .int .i64 0, .int .i64 3] 55) := ⟨_, rfl⟩
  have HE : Hid (RdE wa (some ⟨w.heap.size, 0, none⟩) starE) := by rw [hwa]; exact rdE_star w
  have HW : Hid (Below w.heap.size w wa) := by rw [hwa]; exact (Below.refl _ _).alloc (Nat.le_refl _) _
  rw [← hwa]
  clear hwa
  refine ((Band_calls 4 (some ⟨w.heap.size, 0, none⟩) 3 3 starE wa rfl HE.out (Nat.le_refl _) (by decide)).mono fun e w' h => h.ok starC live1).mono ?_
  rintro e w1 ⟨g1, c1, rfl, hA1, hB1⟩
  have HA1 := Lib.hid hA1
  have hb1 := hA1.bd
  have HE := Lib.hid (HE.out.below hB1)
  have HW := Lib.hid (HW.out.trans (hB1.mono HW.out.size))
  clear hA1 hB1
  go_wp2_with fail
  refine ((Cut_calls 4 (some ⟨w.heap.size, 0, none⟩) 3 3 starE w1 rfl HE.out (Nat.le_refl _) (by decide)).mono fun e w' h => h.ok starC live2).mono ?_
  rintro e w2 ⟨g2, c2, rfl, hA2, hB2⟩
  have HA1 := Lib.hid (HA1.out.below hB2)
  have HA2 := Lib.hid hA2
  have hb2 := hA2.bd
  have HE := Lib.hid (HE.out.below hB2)
  have HW := Lib.hid (HW.out.trans (hB2.mono HW.out.size))
  clear hA2 hB2
  go_wp2_with fail
  refine ((Arrange_calls 4 (some ⟨w.heap.size, 0, none⟩) 3 3 starE w2 rfl HE.out (Nat.le_refl _) (by decide)).mono fun e w' h => h.ok starC live3).mono ?_
  rintro e w3 ⟨g3, c3, rfl, hA3, hB3⟩
  have HA1 := Lib.hid (HA1.out.below hB3)
  have HA2 := Lib.hid (HA2.out.below hB3)
  have HA3 := Lib.hid hA3
  have hb3 := hA3.bd
  have HE := Lib.hid (HE.out.below hB3)
  have HW := Lib.hid (HW.out.trans (hB3.mono HW.out.size))
  clear hA3 hB3
  go_wp2_with fail
  refine (bound_calls 4 (some ⟨w3.heap.size, 0, none⟩) 4 4 ringE _ rfl (rdE_ring w3) (Nat.le_refl _) (by decide)).mono ?_
  rw [live4]
  rintro e w4 ⟨rfl, hB4⟩
  have hB4' : Below w3.heap.size w3 w4 := ((Below.refl _ _).alloc (Nat.le_refl _) _).trans (hB4.mono (by simp))
  have HA1 := Lib.hid (HA1.out.below hB4')
  have HA2 := Lib.hid (HA2.out.below hB4')
  have HA3 := Lib.hid (HA3.out.below hB4')
  have HE := Lib.hid (HE.out.below hB4')
  have HW := Lib.hid (HW.out.trans (hB4'.mono HW.out.size))
  clear hB4 hB4'
  go_wp2_with fail
  have hB5' : Below w4.heap.size w4 (w4.alloc (.cells #[.int .i64 0, .int .i64 1, .int .i64 2, .int .i64 3] 3)) := (Below.refl _ _).alloc (Nat.le_refl _) _
  refine (measure_calls 4 (some ⟨w.heap.size, 0, none⟩) 3 3 starE (some ⟨w4.heap.size, 0, none⟩) 4 4 [0, 1, 2, 3] _ rfl (HE.out.below hB5') (Nat.le_refl _) (by decide) rfl (rd_lit w4 [0, 1, 2, 3] _ rfl) (Nat.le_refl _) (by decide)).mono ?_
  rw [live5]
  rintro e w5 ⟨rfl, hB5⟩
  have hB5'' := hB5'.trans (hB5.mono (by simp))
  have HA1 := Lib.hid (HA1.out.below hB5'')
  have HA2 := Lib.hid (HA2.out.below hB5'')
  have HA3 := Lib.hid (HA3.out.below hB5'')
  have HW := Lib.hid (HW.out.trans (hB5''.mono HW.out.size))
  clear hB5 hB5' hB5''
  go_wp2_with fail
  have hB6 : Below w5.heap.size w5 (w5.alloc (.cells #[.int .i64 1, .int .i64 0, .int .i64 2, .int .i64 3] 3)) := (Below.refl _ _).alloc (Nat.le_refl _) _
  refine (same_true (xs := [1, 0, 2, 3]) rfl (HA1.out.below hB6).rd hb1.1 hb1.2 rfl (rd_lit w5 [1, 0, 2, 3] _ rfl) (Nat.le_refl _) (by decide)).mono ?_
  rintro e w6 ⟨rfl, hB7⟩
  have hB8 := hB6.trans (hB7.mono (by simp))
  have HA1 := Lib.hid (HA1.out.below hB8)
  have HA2 := Lib.hid (HA2.out.below hB8)
  have HA3 := Lib.hid (HA3.out.below hB8)
  have HW := Lib.hid (HW.out.trans (hB8.mono HW.out.size))
  clear hB6 hB7 hB8
  go_wp2_with fail
  have hB6 : Below w6.heap.size w6 (w6.alloc (.cells #[.int .i64 1, .int .i64 0, .int .i64 2, .int .i64 3] 3)) := (Below.refl _ _).alloc (Nat.le_refl _) _
  refine (same_true (xs := [1, 0, 2, 3]) rfl (HA2.out.below hB6).rd hb2.1 hb2.2 rfl (rd_lit w6 [1, 0, 2, 3] _ rfl) (Nat.le_refl _) (by decide)).mono ?_
  rintro e w7 ⟨rfl, hB7⟩
  have hB8 := hB6.trans (hB7.mono (by simp))
  have HA1 := Lib.hid (HA1.out.below hB8)
  have HA2 := Lib.hid (HA2.out.below hB8)
  have HA3 := Lib.hid (HA3.out.below hB8)
  have HW := Lib.hid (HW.out.trans (hB8.mono HW.out.size))
  clear hB6 hB7 hB8
  go_wp2_with fail
  have hB6 : Below w7.heap.size w7 (w7.alloc (.cells #[.int .i64 1, .int .i64 0, .int .i64 2, .int .i64 3] 3)) := (Below.refl _ _).alloc (Nat.le_refl _) _
  refine (same_true (xs := [1, 0, 2, 3]) rfl (HA3.out.below hB6).rd hb3.1 hb3.2 rfl (rd_lit w7 [1, 0, 2, 3] _ rfl) (Nat.le_refl _) (by decide)).mono ?_
  rintro e w8 ⟨rfl, hB7⟩
  have hB8 := hB6.trans (hB7.mono (by simp))
  have HA1 := Lib.hid (HA1.out.below hB8)
  have HA2 := Lib.hid (HA2.out.below hB8)
  have HA3 := Lib.hid (HA3.out.below hB8)
  have HW := Lib.hid (HW.out.trans (hB8.mono HW.out.size))
  clear hB6 hB7 hB8
  go_wp2_with fail
  go_ret
  exact ⟨rfl, HW.out⟩
end Go.Proofs.Ytlidnhmagleehaa
