/- What is proved: Accepts on the expression of lives. No condition beyond those in each statement. -/
import Derived.Test.YthnhmfmlhlpggaaX
import Derived.Test.YthnhmfmlhlpggaaPtA
import Derived.Laws.Cover3
import Derived.Laws.EntriesVeiled
namespace Go.Proofs.Ythnhmfmlhlpggaa
open Go.RowKit
set_option maxRecDepth 100000

theorem outside1_calls (x : Int) (b : Nat) (w : World) (hb : w.cell? ⟨b, 0, none⟩ = some (.int .i64 8)) : Calls Try.prog 107 #[.int .i64 x, .pointer (some ⟨b, 0, none⟩)] w fun e w' => e = .returned (.bool (decide (x < 0) || decide (x > 8))) ∧ Below w.heap.size w w' := by
  by_cases h1 : x < 0
  · go_enter Try.func107, Try.ntmps107
    go_wp2
    go_ret
    exact ⟨ret_bool (by simp [h1]), Below.refl _ _⟩
  · go_enter Try.func107, Try.ntmps107
    go_wp2
    go_ret
    exact ⟨ret_bool (by simp; omega), Below.refl _ _⟩
theorem enters107 : ∀ args w, (callFunc 107 args).run Try.prog w = .ok (.enter 107 args) w := fun _ _ => rfl
theorem outside_calls (A : Option Addr) (c : Nat) (w : World) (hx : Rd w A [0, 1, 0]) (hl : 3 ≤ c) (hc : c ≤ 9223372036854775807) : Calls Try.prog 75 #[.slice A 3 c, .int .i64 8] w fun e w' => e = .returned (.bool false) ∧ Below w.heap.size w w' := by
  obtain ⟨W, hW⟩ : ∃ W, W = w.alloc (.cells #[.int .i64 8] 3) := ⟨_, rfl⟩
  have hB : Below w.heap.size w W := by rw [hW]; exact (Below.refl _ _).alloc (Nat.le_refl _) _
  have hb0 : W.cell? ⟨w.heap.size, 0, none⟩ = some (.int .i64 8) := by rw [hW]; exact World.cell?_alloc_at _ _ _ _ rfl
  have hlt : w.heap.size < W.heap.size := by rw [hW]; simp
  have CC := Pt.containsFunc_calls 107 #[.pointer (some ⟨w.heap.size, 0, none⟩)] enters107 (fun x => decide (x < 0) || decide (x > 8)) A c [0, 1, 0] W (hx.below hB) hl hc (fun i W' hi hb => outside1_calls _ _ W' ((hb.cell (p := ⟨w.heap.size, 0, none⟩) hlt).trans hb0))
  have C2 := Lib.hid CC
  have HB := Lib.hid hB
  have HW := Lib.hid hW
  clear CC hB hb0 hlt hW hx
  go_enter Try.func75, Try.ntmps75
  go_wp2_with fail
  have hw := HW.out
  rw [← hw]
  clear hw
  refine C2.out.mono ?_
  rintro e w1 ⟨rfl, hb⟩
  have HF := Lib.hid (HB.out.trans (hb.mono HB.out.size))
  clear hb
  go_wp2_with fail
  go_ret
  exact ⟨ret_bool (by decide), HF.out⟩
set_option maxHeartbeats 4000000 in
theorem accepts_calls (g c : Nat) (w : World) (hx : Rd w (some ⟨g, 0, none⟩) [0, 1, 0]) (hl : 3 ≤ c) (hc : c ≤ 9223372036854775807) : Calls Try.prog 34 #[.string ⟨#[97, 42, 98, 43]⟩, .slice (some ⟨g, 0, none⟩) 3 c] w fun e w' => e = .returned (.tuple #[.bool true, .int .i64 0]) ∧ Below w.heap.size w w' := by
  have C1 := Lib.hid (outside_calls (some ⟨g, 0, none⟩) c w hx hl hc)
  have HX := Lib.hid hx
  clear hx
  go_enter Try.func34, Try.ntmps34
  go_wp2_with fail
  refine C1.out.mono ?_
  rintro e w1 ⟨rfl, hb⟩
  have HB1 := Lib.hid hb
  have hx1 := HX.out.below hb
  have r0 : w1.cell? ⟨g, 0, none⟩ = some (.int .i64 0) := hx1.at2 0 (by simp)
  have r1 : w1.cell? ⟨g, 1, none⟩ = some (.int .i64 1) := hx1.at2 1 (by simp)
  have r2 : w1.cell? ⟨g, 2, none⟩ = some (.int .i64 0) := hx1.at2 2 (by simp)
  have hat : (Instr.arrayAt 114 (.slice (some ⟨g, 0, none⟩) 3 c)).run Try.prog w1 = .ok (.pointer (some ⟨g, 0, none⟩)) w1 := run_arrayAt w1 114 _ 3 _ 3 c Try.underlying114 (Nat.le_refl _)
  obtain ⟨Y, hY⟩ : ∃ Y, Y = w1.heap.size := ⟨_, rfl⟩
  obtain ⟨W2, hW2⟩ : ∃ W2, W2 = (w1.alloc (.cells #[.int .i64 0, .int .i64 1, .int .i64 0] 114)).alloc (.cells #[.func (.func 76) #[] #[.pointer (some ⟨Y, 0, none⟩)], .func (.func 78) #[] #[.pointer (some ⟨Y, 0, none⟩)], .func (.func 80) #[] #[], .func (.func 81) #[] #[.pointer (some ⟨Y, 0, none⟩)]] 122) := ⟨_, rfl⟩
  have hb2 : Below w1.heap.size w1 W2 := by rw [hW2]; exact ((Below.refl _ _).alloc (Nat.le_refl _) _).alloc (by simp) _
  have hM : Mst W2 Y := by
    have hl : Y < (w1.alloc (.cells #[.int .i64 0, .int .i64 1, .int .i64 0] 114)).heap.size := by rw [hY]; simp
    rw [hW2]
    refine ⟨by simp; omega, (World.cell?_alloc_past _ _ _ hl).trans ?_, (World.cell?_alloc_past _ _ _ hl).trans ?_, (World.cell?_alloc_past _ _ _ hl).trans ?_⟩
    all_goals (rw [hY]; exact World.cell?_alloc_at _ _ _ _ rfl)
  have CR := Lib.hid (run_calls hM)
  have HB2 := Lib.hid (HB1.out.trans (hb2.mono HB1.out.size))
  have HM := Lib.hid hM
  have HW2 := Lib.hid (And.intro hW2 hY)
  clear hb hx1 hY hW2 hb2 hM
  unfold machV at CR
  go_wp2_with fail
  have hw := HW2.out
  rw [← hw.2, ← hw.1]
  clear hw
  refine CR.out.mono ?_
  rintro e w3 ⟨m, rfl, hm, _, hb3⟩
  have hY3 := HM.out.below hb3
  have hlk := mp_lookup hm (k := 2) (by omega)
  have HF := Lib.hid (HB2.out.trans (hb3.mono HB2.out.size))
  obtain ⟨_, y0, y1, y2⟩ := hY3
  have hd : decide (2 ∈ [0, 2]) = true := by decide
  rw [hd] at hlk
  clear hm hb3 CR hd
  unfold kv at hlk
  go_wp2_with fail
  go_ret2
  exact ⟨rfl, HF.out⟩
end Go.Proofs.Ythnhmfmlhlpggaa
