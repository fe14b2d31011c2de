/- What is proved: Waksman(3), Guy(6). No condition beyond those in each statement. -/
import Derived.Test.YthnhmfmlhlpggaaO
namespace Go.Proofs.Ythnhmfmlhlpggaa
open Go.RowKit
set_option maxRecDepth 100000

theorem waksman_calls (w : World) : Calls Try.prog 35 #[.int .i64 3] w fun e w' => e = .returned (.tuple #[.int .i64 17, .int .i64 0]) ∧ w = w' := by
  go_enter Try.func35, Try.ntmps35
  go_wp2
  go_ret2
  exact ⟨rfl, rfl⟩
def guyL (k : Nat) : List Int := [0, 1, 2, 4, 7, 13, 24].take (k + 2)
def lenOf : Value → Nat
  | .slice _ n _ => n
  | _ => 0
def GuyI (w : World) (v : Value) (wr : World) : Prop := ∃ k g c, k ≤ 5 ∧ v = .slice (some ⟨g, 0, none⟩) (k + 2) c ∧ Arr wr w.heap.size g c (guyL k) ∧ Below w.heap.size w wr
set_option maxHeartbeats 8000000 in
theorem guy_calls (w : World) : Calls Try.prog 83 #[.int .i64 6] w fun e w' => e = .returned (.int .i64 24) ∧ Below w.heap.size w w' := by
  go_enter Try.func83, Try.ntmps83
  go_wp2_with fail
  go_loopw [3, 4, 5] (fun v3 _ _ wr => GuyI w v3 wr) (fun v3 _ _ _ => 7 - lenOf v3)
  case atStart => exact ⟨0, w.heap.size, 2, by omega, rfl, Arr.of_heap (World.alloc_heap_new _ _) (Nat.le_refl _) rfl (by decide), (Below.refl _ _).alloc (Nat.le_refl _) _⟩
  case round =>
    obtain ⟨k, g, c, hk, rfl, hA, hB⟩ := hrel
    have HA := Lib.hid hA
    have HB := Lib.hid hB
    have hg := hA.lt
    have cell := Lib.hid (fun i (hi : i < (guyL k).length) => hA.at i hi)
    clear hA hB
    match k, hk with
    | 5, _ =>
      have c6 : wr.cell? ⟨g, 6, none⟩ = some (.int .i64 24) := cell.out 6 (by decide)
      go_wp2_with fail
      go_ret
      exact ⟨rfl, HB.out⟩
    | 0, _ =>
      have cx : wr.cell? ⟨g, 1, none⟩ = some (.int .i64 1) := cell.out 1 (by decide)
      have wl0 : IntKind.i64.wrap 0 = 0 := IntWalk.i64_in _ (by omega)
      have wl1 : IntKind.i64.wrap 2 = 2 := IntWalk.i64_in _ (by omega)
      have cy : wr.cell? ⟨g, 0, none⟩ = some (.int .i64 0) := cell.out 0 (by decide)
      go_wp2_with fail
      go_loop [5] (fun v => ∃ r : Nat, v = .int .i64 r ∧ r ≤ 1) (fun v => 1 - (intOf v).toNat)
      case atStart => exact ⟨0, rfl, by omega⟩
      case round =>
        obtain ⟨r, rfl, hr⟩ := hrel
        match r, hr with
        | 0, _ =>
          go_wp2_with fail
          go_round
          case rel => exact ⟨1, rfl, by omega⟩
          case measure => simp [intOf]
        | 1, _ =>
          go_wp2_with fail
          go_region_law ((refine step_app (by rfl) (.tmp 26) (.tmp 39) 27 27 (by rfl) (by rfl) _ _ (by rfl) (by rfl) (owi_app (base := w.heap.size) (xs := guyL 0) (ys := [(2 : Int)]) (by rfl) (by rfl) (by repeat (first | with_reducible exact HA.out | with_reducible refine Arr.drew ?_ | with_reducible refine Arr.alloc ?_ _)) (ni_cells (by repeat (first | with_reducible refine ni_newE _ _ _ (by first | rfl | simp) | with_reducible refine NI.drew ?_ | with_reducible refine NI.alloc ?_ _))) (by have := HB.out.size; first | omega | (simp; omega)) (by simp [guyL])) ?_; rintro v3 w3 ⟨g3, c3, rfl, ho3, hb3, hn3⟩))
          all_goals
            have hb4 := Lib.hid hb3
            have ho4 := Lib.hid ho3
            have hs := HB.out.size
            clear hb3 hn3 ho3
            go_wp2_with fail
            go_simp
            go_roundw
            case rel => exact ⟨1, g3, c3, by omega, rfl, ho4.out, Below.trans (by repeat (first | with_reducible exact HB.out | with_reducible refine Below.drew ?_ | with_reducible refine Below.alloc ?_ (by first | omega | (simp; omega)) _)) hb4.out⟩
            case measure => simp [lenOf, guyL]
    | 1, _ =>
      have cx : wr.cell? ⟨g, 2, none⟩ = some (.int .i64 2) := cell.out 2 (by decide)
      have wl0 : IntKind.i64.wrap 0 = 0 := IntWalk.i64_in _ (by omega)
      have wl1 : IntKind.i64.wrap 4 = 4 := IntWalk.i64_in _ (by omega)
      have cy : wr.cell? ⟨g, 0, none⟩ = some (.int .i64 0) := cell.out 0 (by decide)
      go_wp2_with fail
      go_loop [5] (fun v => ∃ r : Nat, v = .int .i64 r ∧ r ≤ 2) (fun v => 2 - (intOf v).toNat)
      case atStart => exact ⟨0, rfl, by omega⟩
      case round =>
        obtain ⟨r, rfl, hr⟩ := hrel
        match r, hr with
        | 0, _ =>
          go_wp2_with fail
          go_round
          case rel => exact ⟨1, rfl, by omega⟩
          case measure => simp [intOf]
        | 1, _ =>
          go_wp2_with fail
          go_round
          case rel => exact ⟨2, rfl, by omega⟩
          case measure => simp [intOf]
        | 2, _ =>
          go_wp2_with fail
          go_region_law ((refine step_app (by rfl) (.tmp 26) (.tmp 39) 27 27 (by rfl) (by rfl) _ _ (by rfl) (by rfl) (owi_app (base := w.heap.size) (xs := guyL 1) (ys := [(4 : Int)]) (by rfl) (by rfl) (by repeat (first | with_reducible exact HA.out | with_reducible refine Arr.drew ?_ | with_reducible refine Arr.alloc ?_ _)) (ni_cells (by repeat (first | with_reducible refine ni_newE _ _ _ (by first | rfl | simp) | with_reducible refine NI.drew ?_ | with_reducible refine NI.alloc ?_ _))) (by have := HB.out.size; first | omega | (simp; omega)) (by simp [guyL])) ?_; rintro v3 w3 ⟨g3, c3, rfl, ho3, hb3, hn3⟩))
          all_goals
            have hb4 := Lib.hid hb3
            have ho4 := Lib.hid ho3
            have hs := HB.out.size
            clear hb3 hn3 ho3
            go_wp2_with fail
            go_simp
            go_roundw
            case rel => exact ⟨2, g3, c3, by omega, rfl, ho4.out, Below.trans (by repeat (first | with_reducible exact HB.out | with_reducible refine Below.drew ?_ | with_reducible refine Below.alloc ?_ (by first | omega | (simp; omega)) _)) hb4.out⟩
            case measure => simp [lenOf, guyL]
    | 2, _ =>
      have cx : wr.cell? ⟨g, 3, none⟩ = some (.int .i64 4) := cell.out 3 (by decide)
      have wl0 : IntKind.i64.wrap 1 = 1 := IntWalk.i64_in _ (by omega)
      have wl1 : IntKind.i64.wrap 7 = 7 := IntWalk.i64_in _ (by omega)
      have wl2 : IntKind.i64.wrap 8 = 8 := IntWalk.i64_in _ (by omega)
      have cy : wr.cell? ⟨g, 1, none⟩ = some (.int .i64 1) := cell.out 1 (by decide)
      go_wp2_with fail
      go_loop [5] (fun v => ∃ r : Nat, v = .int .i64 r ∧ r ≤ 2) (fun v => 2 - (intOf v).toNat)
      case atStart => exact ⟨0, rfl, by omega⟩
      case round =>
        obtain ⟨r, rfl, hr⟩ := hrel
        match r, hr with
        | 0, _ =>
          go_wp2_with fail
          go_round
          case rel => exact ⟨1, rfl, by omega⟩
          case measure => simp [intOf]
        | 1, _ =>
          go_wp2_with fail
          go_round
          case rel => exact ⟨2, rfl, by omega⟩
          case measure => simp [intOf]
        | 2, _ =>
          go_wp2_with fail
          go_region_law ((refine step_app (by rfl) (.tmp 26) (.tmp 39) 27 27 (by rfl) (by rfl) _ _ (by rfl) (by rfl) (owi_app (base := w.heap.size) (xs := guyL 2) (ys := [(7 : Int)]) (by rfl) (by rfl) (by repeat (first | with_reducible exact HA.out | with_reducible refine Arr.drew ?_ | with_reducible refine Arr.alloc ?_ _)) (ni_cells (by repeat (first | with_reducible refine ni_newE _ _ _ (by first | rfl | simp) | with_reducible refine NI.drew ?_ | with_reducible refine NI.alloc ?_ _))) (by have := HB.out.size; first | omega | (simp; omega)) (by simp [guyL])) ?_; rintro v3 w3 ⟨g3, c3, rfl, ho3, hb3, hn3⟩))
          all_goals
            have hb4 := Lib.hid hb3
            have ho4 := Lib.hid ho3
            have hs := HB.out.size
            clear hb3 hn3 ho3
            go_wp2_with fail
            go_simp
            go_roundw
            case rel => exact ⟨3, g3, c3, by omega, rfl, ho4.out, Below.trans (by repeat (first | with_reducible exact HB.out | with_reducible refine Below.drew ?_ | with_reducible refine Below.alloc ?_ (by first | omega | (simp; omega)) _)) hb4.out⟩
            case measure => simp [lenOf, guyL]
    | 3, _ =>
      have cx : wr.cell? ⟨g, 4, none⟩ = some (.int .i64 7) := cell.out 4 (by decide)
      have wl0 : IntKind.i64.wrap 1 = 1 := IntWalk.i64_in _ (by omega)
      have wl1 : IntKind.i64.wrap 13 = 13 := IntWalk.i64_in _ (by omega)
      have wl2 : IntKind.i64.wrap 14 = 14 := IntWalk.i64_in _ (by omega)
      have cy : wr.cell? ⟨g, 1, none⟩ = some (.int .i64 1) := cell.out 1 (by decide)
      go_wp2_with fail
      go_loop [5] (fun v => ∃ r : Nat, v = .int .i64 r ∧ r ≤ 3) (fun v => 3 - (intOf v).toNat)
      case atStart => exact ⟨0, rfl, by omega⟩
      case round =>
        obtain ⟨r, rfl, hr⟩ := hrel
        match r, hr with
        | 0, _ =>
          go_wp2_with fail
          go_round
          case rel => exact ⟨1, rfl, by omega⟩
          case measure => simp [intOf]
        | 1, _ =>
          go_wp2_with fail
          go_round
          case rel => exact ⟨2, rfl, by omega⟩
          case measure => simp [intOf]
        | 2, _ =>
          go_wp2_with fail
          go_round
          case rel => exact ⟨3, rfl, by omega⟩
          case measure => simp [intOf]
        | 3, _ =>
          go_wp2_with fail
          go_region_law ((refine step_app (by rfl) (.tmp 26) (.tmp 39) 27 27 (by rfl) (by rfl) _ _ (by rfl) (by rfl) (owi_app (base := w.heap.size) (xs := guyL 3) (ys := [(13 : Int)]) (by rfl) (by rfl) (by repeat (first | with_reducible exact HA.out | with_reducible refine Arr.drew ?_ | with_reducible refine Arr.alloc ?_ _)) (ni_cells (by repeat (first | with_reducible refine ni_newE _ _ _ (by first | rfl | simp) | with_reducible refine NI.drew ?_ | with_reducible refine NI.alloc ?_ _))) (by have := HB.out.size; first | omega | (simp; omega)) (by simp [guyL])) ?_; rintro v3 w3 ⟨g3, c3, rfl, ho3, hb3, hn3⟩))
          all_goals
            have hb4 := Lib.hid hb3
            have ho4 := Lib.hid ho3
            have hs := HB.out.size
            clear hb3 hn3 ho3
            go_wp2_with fail
            go_simp
            go_roundw
            case rel => exact ⟨4, g3, c3, by omega, rfl, ho4.out, Below.trans (by repeat (first | with_reducible exact HB.out | with_reducible refine Below.drew ?_ | with_reducible refine Below.alloc ?_ (by first | omega | (simp; omega)) _)) hb4.out⟩
            case measure => simp [lenOf, guyL]
    | 4, _ =>
      have cx : wr.cell? ⟨g, 5, none⟩ = some (.int .i64 13) := cell.out 5 (by decide)
      have wl0 : IntKind.i64.wrap 2 = 2 := IntWalk.i64_in _ (by omega)
      have wl1 : IntKind.i64.wrap 24 = 24 := IntWalk.i64_in _ (by omega)
      have wl2 : IntKind.i64.wrap 26 = 26 := IntWalk.i64_in _ (by omega)
      have cy : wr.cell? ⟨g, 2, none⟩ = some (.int .i64 2) := cell.out 2 (by decide)
      go_wp2_with fail
      go_loop [5] (fun v => ∃ r : Nat, v = .int .i64 r ∧ r ≤ 3) (fun v => 3 - (intOf v).toNat)
      case atStart => exact ⟨0, rfl, by omega⟩
      case round =>
        obtain ⟨r, rfl, hr⟩ := hrel
        match r, hr with
        | 0, _ =>
          go_wp2_with fail
          go_round
          case rel => exact ⟨1, rfl, by omega⟩
          case measure => simp [intOf]
        | 1, _ =>
          go_wp2_with fail
          go_round
          case rel => exact ⟨2, rfl, by omega⟩
          case measure => simp [intOf]
        | 2, _ =>
          go_wp2_with fail
          go_round
          case rel => exact ⟨3, rfl, by omega⟩
          case measure => simp [intOf]
        | 3, _ =>
          go_wp2_with fail
          go_region_law ((refine step_app (by rfl) (.tmp 26) (.tmp 39) 27 27 (by rfl) (by rfl) _ _ (by rfl) (by rfl) (owi_app (base := w.heap.size) (xs := guyL 4) (ys := [(24 : Int)]) (by rfl) (by rfl) (by repeat (first | with_reducible exact HA.out | with_reducible refine Arr.drew ?_ | with_reducible refine Arr.alloc ?_ _)) (ni_cells (by repeat (first | with_reducible refine ni_newE _ _ _ (by first | rfl | simp) | with_reducible refine NI.drew ?_ | with_reducible refine NI.alloc ?_ _))) (by have := HB.out.size; first | omega | (simp; omega)) (by simp [guyL])) ?_; rintro v3 w3 ⟨g3, c3, rfl, ho3, hb3, hn3⟩))
          all_goals
            have hb4 := Lib.hid hb3
            have ho4 := Lib.hid ho3
            have hs := HB.out.size
            clear hb3 hn3 ho3
            go_wp2_with fail
            go_simp
            go_roundw
            case rel => exact ⟨5, g3, c3, by omega, rfl, ho4.out, Below.trans (by repeat (first | with_reducible exact HB.out | with_reducible refine Below.drew ?_ | with_reducible refine Below.alloc ?_ (by first | omega | (simp; omega)) _)) hb4.out⟩
            case measure => simp [lenOf, guyL]
end Go.Proofs.Ythnhmfmlhlpggaa
