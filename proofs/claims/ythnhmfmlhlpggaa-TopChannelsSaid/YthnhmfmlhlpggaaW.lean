/- What is proved: the letters and the star of Accepts. No condition beyond those in each statement. -/
import Derived.Test.YthnhmfmlhlpggaaV
namespace Go.Proofs.Ythnhmfmlhlpggaa
open Go.RowKit
set_option maxRecDepth 100000

/-- The vector 0, 1, 0 in a block of its own. -/
def Mst (w : World) (Y : Nat) : Prop := Y < w.heap.size ∧ w.cell? ⟨Y, 0, none⟩ = some (.int .i64 0) ∧ w.cell? ⟨Y, 1, none⟩ = some (.int .i64 1) ∧ w.cell? ⟨Y, 2, none⟩ = some (.int .i64 0)
theorem Mst.below {w w' : World} {Y : Nat} (h : Mst w Y) (hb : Below w.heap.size w w') : Mst w' Y :=
  ⟨Nat.lt_of_lt_of_le h.1 hb.size, (hb.cell (p := ⟨Y, 0, none⟩) h.1).trans h.2.1, (hb.cell (p := ⟨Y, 1, none⟩) h.1).trans h.2.2.1, (hb.cell (p := ⟨Y, 2, none⟩) h.1).trans h.2.2.2⟩
set_option maxHeartbeats 4000000 in
theorem letter0_calls {w : World} {Y : Nat} (h : Mst w Y) : Calls Try.prog 76 #[.int .i64 0, .pointer (some ⟨Y, 0, none⟩)] w fun e w' => ∃ m, e = .returned (.map (some m)) ∧ Mp w' m [] ∧ w.heap.size ≤ m ∧ Below w.heap.size w w' := by
  obtain ⟨X, hX⟩ : ∃ X, X = w.heap.size := ⟨_, rfl⟩
  obtain ⟨W1, hW1⟩ : ∃ W1, W1 = w.alloc (.cells #[.int .i64 1, .int .i64 0, .int .i64 0] 114) := ⟨_, rfl⟩
  have hB1 : Below w.heap.size w W1 := by rw [hW1]; exact (Below.refl _ _).alloc (Nat.le_refl _) _
  have hs1 : W1.heap.size = X + 1 := by rw [hW1, hX]; simp
  have hY1 := h.below hB1
  have hXc : W1.cell? ⟨X, 0, none⟩ = some (.int .i64 1) ∧ W1.cell? ⟨X, 1, none⟩ = some (.int .i64 0) ∧ W1.cell? ⟨X, 2, none⟩ = some (.int .i64 0) := by
    rw [hW1, hX]; exact ⟨World.cell?_alloc_at _ _ _ _ rfl, World.cell?_alloc_at _ _ _ _ rfl, World.cell?_alloc_at _ _ _ _ rfl⟩
  obtain ⟨N, hN⟩ : ∃ N, N = W1.heap.size := ⟨_, rfl⟩
  have mk : (Instr.makeMap 116 none).run Try.prog W1.drew = .ok (.map (some N)) (W1.alloc (.map #[] 0)).drew := by rw [hN]; exact mkMap116 W1.drew
  have hM2 : Mp (W1.alloc (.map #[] 0)).drew N [] := by rw [hN]; exact mp_new W1
  obtain ⟨W4, hup, hM4, hg4⟩ := mp_insert hM2 (k := 1) (by omega) (by simp)
  have hB2 : Below W1.heap.size W1 (W1.alloc (.map #[] 0)).drew := ((Below.refl _ W1).alloc (Nat.le_refl _) _).drew
  have hs2 : (W1.alloc (.map #[] 0)).drew.heap.size = X + 2 := by simp [hs1]
  have hB14 : Below W1.heap.size W1 W4 := hB2.trans ⟨hg4.os, hg4.tape, hg4.output, hg4.size, fun g hg => hg4.block g (by omega) (by simp; omega)⟩
  have hB24 := hB1.trans (hB14.mono hB1.size)
  have HS : Hid (∀ w', Below W1.heap.size W1 w' → w'.cell? ⟨X, 0, none⟩ = some (.int .i64 1) ∧ w'.cell? ⟨X, 1, none⟩ = some (.int .i64 0) ∧ w'.cell? ⟨X, 2, none⟩ = some (.int .i64 0) ∧ w'.cell? ⟨Y, 0, none⟩ = some (.int .i64 0) ∧ w'.cell? ⟨Y, 1, none⟩ = some (.int .i64 1) ∧ w'.cell? ⟨Y, 2, none⟩ = some (.int .i64 0)) := fun w' hb => by
    obtain ⟨h0, h1, h2, h3⟩ := hY1.below hb
    exact ⟨(hb.cell (p := ⟨X, 0, none⟩) (by show X < _; omega)).trans hXc.1, (hb.cell (p := ⟨X, 1, none⟩) (by show X < _; omega)).trans hXc.2.1, (hb.cell (p := ⟨X, 2, none⟩) (by show X < _; omega)).trans hXc.2.2, h1, h2, h3⟩
  have HC : Hid (Calls Try.prog 77 #[.map (some N), kv 2] W4 fun e w' => e = .returned (.map (some N)) ∧ Mp w' N [] ∧ Below w.heap.size w w' ∧ Below W1.heap.size W1 w') := (within_one hM4).mono fun _ _ ⟨he, hm, ho⟩ => ⟨he, hm, Om.new hB24 ho (by omega), Om.new hB14 ho (by omega)⟩
  have HB := Lib.hid (And.intro hB2 hB14)
  have HN : Hid (w.heap.size ≤ N) := by show _ ≤ _; omega
  have HW1 := Lib.hid (And.intro hW1 hX)
  have cY := HS.out W1 (Below.refl _ _)
  clear hB1 hs1 hY1 hXc hN hM2 hM4 hg4 hB2 hs2 hB14 hB24 hW1 hX
  unfold kv at *
  obtain ⟨_, _, _, cy0, cy1, cy2⟩ := cY
  go_enter Try.func76, Try.ntmps76
  go_wp2_with fail
  have hw := HW1.out
  rw [← hw.1, ← hw.2]
  clear hw HW1
  go_region_held3 (fun w' => w'.cell? ⟨X, 0, none⟩ = some (.int .i64 1) ∧ w'.cell? ⟨X, 1, none⟩ = some (.int .i64 0) ∧ w'.cell? ⟨X, 2, none⟩ = some (.int .i64 0) ∧ w'.cell? ⟨Y, 0, none⟩ = some (.int .i64 0) ∧ w'.cell? ⟨Y, 1, none⟩ = some (.int .i64 1) ∧ w'.cell? ⟨Y, 2, none⟩ = some (.int .i64 0))
    ((first | exact HS.out _ (Below.refl _ _).drew | exact HS.out _ HB.out.1 | exact HS.out _ HB.out.2 | exact HS.out _ (by assumption)))
    ((go_at_call 77; (with_reducible refine HC.out.mono ?_); rintro e w5 ⟨rfl, hm5, hb5, hb6⟩))
  have HF := Lib.hid (And.intro hm5 (And.intro HN.out hb5))
  clear hm5 hb5 hb6
  go_wp2_with fail
  go_ret
  exact ⟨N, rfl, HF.out⟩
set_option maxHeartbeats 4000000 in
theorem letter1_calls {w : World} {Y : Nat} (h : Mst w Y) : Calls Try.prog 76 #[.int .i64 1, .pointer (some ⟨Y, 0, none⟩)] w fun e w' => ∃ m, e = .returned (.map (some m)) ∧ Mp w' m [2] ∧ w.heap.size ≤ m ∧ Below w.heap.size w w' := by
  obtain ⟨X, hX⟩ : ∃ X, X = w.heap.size := ⟨_, rfl⟩
  obtain ⟨W1, hW1⟩ : ∃ W1, W1 = w.alloc (.cells #[.int .i64 0, .int .i64 1, .int .i64 0] 114) := ⟨_, rfl⟩
  have hB1 : Below w.heap.size w W1 := by rw [hW1]; exact (Below.refl _ _).alloc (Nat.le_refl _) _
  have hs1 : W1.heap.size = X + 1 := by rw [hW1, hX]; simp
  have hY1 := h.below hB1
  have hXc : W1.cell? ⟨X, 0, none⟩ = some (.int .i64 0) ∧ W1.cell? ⟨X, 1, none⟩ = some (.int .i64 1) ∧ W1.cell? ⟨X, 2, none⟩ = some (.int .i64 0) := by
    rw [hW1, hX]; exact ⟨World.cell?_alloc_at _ _ _ _ rfl, World.cell?_alloc_at _ _ _ _ rfl, World.cell?_alloc_at _ _ _ _ rfl⟩
  obtain ⟨N, hN⟩ : ∃ N, N = W1.heap.size := ⟨_, rfl⟩
  have mk : (Instr.makeMap 116 none).run Try.prog W1.drew = .ok (.map (some N)) (W1.alloc (.map #[] 0)).drew := by rw [hN]; exact mkMap116 W1.drew
  have hM2 : Mp (W1.alloc (.map #[] 0)).drew N [] := by rw [hN]; exact mp_new W1
  obtain ⟨W4, hup, hM4, hg4⟩ := mp_insert hM2 (k := 2) (by omega) (by simp)
  have hB2 : Below W1.heap.size W1 (W1.alloc (.map #[] 0)).drew := ((Below.refl _ W1).alloc (Nat.le_refl _) _).drew
  have hs2 : (W1.alloc (.map #[] 0)).drew.heap.size = X + 2 := by simp [hs1]
  have hB14 : Below W1.heap.size W1 W4 := hB2.trans ⟨hg4.os, hg4.tape, hg4.output, hg4.size, fun g hg => hg4.block g (by omega) (by simp; omega)⟩
  have hB24 := hB1.trans (hB14.mono hB1.size)
  have HS : Hid (∀ w', Below W1.heap.size W1 w' → w'.cell? ⟨X, 0, none⟩ = some (.int .i64 0) ∧ w'.cell? ⟨X, 1, none⟩ = some (.int .i64 1) ∧ w'.cell? ⟨X, 2, none⟩ = some (.int .i64 0) ∧ w'.cell? ⟨Y, 0, none⟩ = some (.int .i64 0) ∧ w'.cell? ⟨Y, 1, none⟩ = some (.int .i64 1) ∧ w'.cell? ⟨Y, 2, none⟩ = some (.int .i64 0)) := fun w' hb => by
    obtain ⟨h0, h1, h2, h3⟩ := hY1.below hb
    exact ⟨(hb.cell (p := ⟨X, 0, none⟩) (by show X < _; omega)).trans hXc.1, (hb.cell (p := ⟨X, 1, none⟩) (by show X < _; omega)).trans hXc.2.1, (hb.cell (p := ⟨X, 2, none⟩) (by show X < _; omega)).trans hXc.2.2, h1, h2, h3⟩
  have HC : Hid (Calls Try.prog 77 #[.map (some N), kv 2] W4 fun e w' => e = .returned (.map (some N)) ∧ Mp w' N [2] ∧ Below w.heap.size w w' ∧ Below W1.heap.size W1 w') := (within_calls 2 (.inr rfl) hM4).mono fun _ _ ⟨he, hm, ho⟩ => ⟨he, hm, hB24.trans (ho.mono hB24.size), hB14.trans (ho.mono hB14.size)⟩
  have HB := Lib.hid (And.intro hB2 hB14)
  have HN : Hid (w.heap.size ≤ N) := by show _ ≤ _; omega
  have HW1 := Lib.hid (And.intro hW1 hX)
  have cY := HS.out W1 (Below.refl _ _)
  clear hB1 hs1 hY1 hXc hN hM2 hM4 hg4 hB2 hs2 hB14 hB24 hW1 hX
  unfold kv at *
  obtain ⟨_, _, _, cy0, cy1, cy2⟩ := cY
  go_enter Try.func76, Try.ntmps76
  go_wp2_with fail
  have hw := HW1.out
  rw [← hw.1, ← hw.2]
  clear hw HW1
  go_region_held3 (fun w' => w'.cell? ⟨X, 0, none⟩ = some (.int .i64 0) ∧ w'.cell? ⟨X, 1, none⟩ = some (.int .i64 1) ∧ w'.cell? ⟨X, 2, none⟩ = some (.int .i64 0) ∧ w'.cell? ⟨Y, 0, none⟩ = some (.int .i64 0) ∧ w'.cell? ⟨Y, 1, none⟩ = some (.int .i64 1) ∧ w'.cell? ⟨Y, 2, none⟩ = some (.int .i64 0))
    ((first | exact HS.out _ (Below.refl _ _).drew | exact HS.out _ HB.out.1 | exact HS.out _ HB.out.2 | exact HS.out _ (by assumption)))
    ((go_at_call 77; (with_reducible refine HC.out.mono ?_); rintro e w5 ⟨rfl, hm5, hb5, hb6⟩))
  have HF := Lib.hid (And.intro hm5 (And.intro HN.out hb5))
  clear hm5 hb5 hb6
  go_wp2_with fail
  go_ret
  exact ⟨N, rfl, HF.out⟩
set_option maxHeartbeats 4000000 in
theorem star_calls {w : World} {Y a : Nat} (h : Mst w Y) (ha : Mp w a []) : Calls Try.prog 81 #[.map (some a), .pointer (some ⟨Y, 0, none⟩)] w fun e w' => ∃ m, e = .returned (.map (some m)) ∧ Mp w' m [0] ∧ w.heap.size ≤ m ∧ Below w.heap.size w w' := by
  obtain ⟨N, hN⟩ : ∃ N, N = w.heap.size := ⟨_, rfl⟩
  obtain ⟨W1, hW1⟩ : ∃ W1, W1 = w.alloc (.map #[] 0) := ⟨_, rfl⟩
  have mk : (Instr.makeMap 116 none).run Try.prog w = .ok (.map (some N)) W1 := by rw [hN, hW1]; exact mkMap116 w
  have hM1 : Mp W1 N [] := by rw [hN, hW1]; exact mp_new w
  have hB1 : Below w.heap.size w W1 := by rw [hW1]; exact (Below.refl _ _).alloc (Nat.le_refl _) _
  have hs1 : W1.heap.size = N + 1 := by rw [hW1, hN]; simp
  obtain ⟨W2, hup, hM2, hg2⟩ := mp_insert hM1 (k := 0) (by omega) (by simp)
  have hB2 : Below w.heap.size w W2 := hB1.trans ⟨hg2.os, hg2.tape, hg2.output, hg2.size, fun g hg => hg2.block g (by omega) (by simp; omega)⟩
  have hs2 := hg2.size
  have hY := h.below hB2
  have hA := ha.below hB2
  have HS : Hid (∀ w', Below W2.heap.size W2 w' → w'.cell? ⟨Y, 0, none⟩ = some (.int .i64 0) ∧ w'.cell? ⟨Y, 1, none⟩ = some (.int .i64 1) ∧ w'.cell? ⟨Y, 2, none⟩ = some (.int .i64 0)) := fun w' hb => (hY.below hb).2
  have CS : Hid (∀ w1, Below W2.heap.size W2 w1 → Calls Try.prog 79 #[.map (some N), .map (some a)] w1 fun e w' => ∃ m1, e = .returned (.map (some m1)) ∧ Mp w' m1 [] ∧ Below W2.heap.size W2 w') := fun w1 hb => (sums_calls (hM2.below hb) (hA.below hb)).mono fun _ _ ⟨m1, he, hm, _, hb1⟩ => ⟨m1, he, hm, hb.trans (hb1.mono hb.size)⟩
  have CW : Hid (∀ w1 m1, Mp w1 m1 [] → Below W2.heap.size W2 w1 → Calls Try.prog 77 #[.map (some m1), kv 2] w1 fun e w' => e = .returned (.map (some m1)) ∧ Mp w' m1 [] ∧ Below W2.heap.size W2 w') := fun w1 m1 hm hb => (within_nil hm).mono fun _ _ ⟨he, hm, hb1⟩ => ⟨he, hm, hb.trans (hb1.mono hb.size)⟩
  have CB : Hid (∀ w1 m1, Mp w1 m1 [] → Below W2.heap.size W2 w1 → Calls Try.prog 80 #[.map (some N), .map (some m1)] w1 fun e w' => ∃ m2, e = .returned (.map (some m2)) ∧ (Mp w' m2 [0] ∧ Mp w' N [0]) ∧ Below W2.heap.size W2 w') := fun w1 m1 hm hb => (both_one (hM2.below hb) hm).mono fun _ _ ⟨m2, he, hm2, _, hb1⟩ => ⟨m2, he, ⟨hm2, (hM2.below hb).below hb1⟩, hb.trans (hb1.mono hb.size)⟩
  have HB : Hid (Below w.heap.size w W2 ∧ w.heap.size ≤ N) := ⟨hB2, by omega⟩
  obtain ⟨cy0, cy1, cy2⟩ := HS.out W2 (Below.refl _ _)
  clear hN hW1 hM1 hB1 hs1 hM2 hg2 hB2 hs2 hY hA h ha
  unfold kv at *
  go_enter Try.func81, Try.ntmps81
  go_wp2_with (refine wpList_upd rfl (.tmp 6) (.tmp 7) (.const (.bool true)) 116 (.inr rfl) _ _ _ rfl rfl rfl hup ?_)
  refine wp_loop_rounds 1 ?_
  rw [rounds_succ]
  go_wp2_with fail
  go_region_held3 (fun w' => w'.cell? ⟨Y, 0, none⟩ = some (.int .i64 0) ∧ w'.cell? ⟨Y, 1, none⟩ = some (.int .i64 1) ∧ w'.cell? ⟨Y, 2, none⟩ = some (.int .i64 0))
    ((first | exact HS.out _ (Below.refl _ _).drew | exact HS.out _ (by assumption)))
    ((first
      | (go_at_call 79; (with_reducible refine (CS.out _ (Below.refl _ _).drew).mono ?_); rintro e w3 ⟨m1, rfl, hm3, hb3⟩)
      | (go_at_call 77; (with_reducible refine (CW.out _ _ hm3 hb3).mono ?_); rintro e w4 ⟨rfl, hm4, hb4⟩)
      | (go_at_call 80; (with_reducible refine (CB.out _ _ hm4 hb4).mono ?_); rintro e w5 ⟨m2, rfl, hm5, hb5⟩)))
  have l1 := mp_len hm5.1 3
  have l2 := mp_len hm5.2 3
  have HF := Lib.hid (And.intro hm5.2 (And.intro HB.out.2 (HB.out.1.trans (hb5.mono HB.out.1.size))))
  simp only [List.length_cons, List.length_nil] at l1 l2
  clear hm3 hb3 hm4 hb4 hm5 hb5
  go_wp2_with fail
  go_ret
  exact ⟨N, rfl, HF.out⟩
end Go.Proofs.Ythnhmfmlhlpggaa
