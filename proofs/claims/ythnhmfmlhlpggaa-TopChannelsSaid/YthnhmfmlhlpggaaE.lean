/- What is proved: length. No condition beyond those in each statement. -/
import Derived.Test.YthnhmfmlhlpggaaD
import Derived.Test.YthnhmfmlhlpggaaPb
namespace Go.Proofs.Ythnhmfmlhlpggaa
open Go.RowKit
set_option maxRecDepth 100000

theorem box_two (w : World) (v0 v1 : Value) (t : Nat) : (w.alloc (.cells #[v0, v1] t)).cell? ⟨w.heap.size, 0, none⟩ = some v0 ∧ (w.alloc (.cells #[v0, v1] t)).cell? ⟨w.heap.size, 1, none⟩ = some v1 := by
  refine ⟨?_, ?_⟩ <;> (rw [World.cell?_alloc_at _ _ _ _ rfl]; rfl)


set_option maxHeartbeats 2000000 in
theorem length_calls (A : Option Addr) (m c : Nat) (pl : List Int) (x y : Nat) (w : World) (hn : m = pl.length) (hA : Rd w A pl) (hl : m ≤ c) (hc : c ≤ 9223372036854775807) (hx : x < m) (hy : y < m) (hb : ∀ p ∈ pl, -1000 ≤ p ∧ p ≤ 1000) :
    Calls Try.prog 96 #[.slice A m c, .agg #[.int .i64 x, .int .i64 y]] w fun e w' => e = .returned (.int .i64 (lenF pl (x, y))) ∧ Below w.heap.size w w' := by
  have hx' : x < pl.length := by omega
  have hy' : y < pl.length := by omega
  obtain ⟨b, o, rfl, hbl, hc1⟩ := hA.at x hx'
  obtain ⟨b', o', e', _, hc2⟩ := hA.at y hy'
  cases e'
  have p1 := hb _ (List.getElem_mem hx')
  have p2 := hb _ (List.getElem_mem hy')
  obtain ⟨p, hp⟩ : ∃ p, p = pl[x] := ⟨_, rfl⟩
  obtain ⟨q, hq⟩ : ∃ p, p = pl[y] := ⟨_, rfl⟩
  rw [← hp] at hc1 p1
  rw [← hq] at hc2 p2
  have HR : Hid (lenF pl (x, y) = max (p - q) (q - p)) := by
    show _ = _
    unfold lenF
    simp only [Int.toNat_natCast]
    rw [getD_lt _ () hx', getD_lt _ () hy', hp, hq]
  have hBa : Below w.heap.size w (w.alloc (.cells #[.int .i64 x, .int .i64 y] 26)) := (Below.refl _ _).alloc (Nat.le_refl _) _
  have d1 := (hBa.cell (p := ⟨b, o + x, none⟩) hbl).trans hc1
  have d2 := (hBa.cell (p := ⟨b, o + y, none⟩) hbl).trans hc2
  obtain ⟨d3, d4⟩ := box_two w (.int .i64 x) (.int .i64 y) 26
  have HB := Lib.hid hBa
  clear hp hq hA hb hn hc1 hc2 hBa hx' hy'
  have b1 : (0 : Int) ≤ x ∧ (x : Int) < m := by omega
  have b2 : (0 : Int) ≤ y ∧ (y : Int) < m := by omega
  have w1 : IntKind.i64.wrap (p - q) = p - q := IntWalk.i64_in _ (by omega)
  have w2 : IntKind.i64.wrap (q - p) = q - p := IntWalk.i64_in _ (by omega)
  have w3 : IntKind.i64.wrap (x : Int) = x := IntWalk.i64_in _ (by omega)
  have w4 : IntKind.i64.wrap (y : Int) = y := IntWalk.i64_in _ (by omega)
  go_enter Try.func96, Try.ntmps96
  go_wp2_with fail
  go_quiet (fail)
  all_goals
    clear w1 w2 w3 w4 d1 d2 d3 d4
    try go_wp2_with fail
    all_goals
      go_ret
      exact ⟨ret_int (by rw [HR.out]; omega), below_drewN HB.out _⟩
end Go.Proofs.Ythnhmfmlhlpggaa
