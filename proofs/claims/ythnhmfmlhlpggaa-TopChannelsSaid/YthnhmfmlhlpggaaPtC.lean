/- What is proved: the first sum (contracts of functions of paint, and what they need). No condition beyond those in each statement. -/
import Derived.Test.YthnhmfmlhlpggaaPtB
namespace Go.Proofs.Ythnhmfmlhlpggaa.Pt
open Go.RowKit
set_option maxRecDepth 100000

def sumAt (cs : List Int) (x y : Nat) : Option (List Int) :=
  if cs.getD (x - 1) 0 == cs.getD (y - 1) 0 && cs.getD (x - 1) 0 == cs.getD (x + y - 1) 0 then some [(x : Int), (y : Int)] else none
def sumF (cs : List Int) : Option (List Int) := firstFrom (fun x => firstFrom (sumAt cs x) (cs.length + 1 - x - x) x) cs.length 1

theorem firstFrom_none {β : Type} {g : Nat → Option β} {m v : Nat} (h : g v = none) : firstFrom g (m + 1) v = firstFrom g m (v + 1) := by simp [firstFrom, h]
theorem firstFrom_some {β : Type} {g : Nat → Option β} {m v : Nat} {r : β} (h : g v = some r) : firstFrom g (m + 1) v = some r := by simp [firstFrom, h]
theorem sumAt_succ (cs : List Int) (x y : Nat) (hx : x < cs.length) (hy : y < cs.length) (hz : x + y + 1 < cs.length) :
    sumAt cs (x + 1) (y + 1) = if cs[x] == cs[y] && cs[x] == cs[x + y + 1] then some [(x : Int) + 1, (y : Int) + 1] else none := by
  have e : x + 1 + (y + 1) - 1 = x + y + 1 := by omega
  unfold sumAt
  rw [e]
  simp [List.getD_eq_getElem?_getD, hx, hy, hz]
theorem rd_two (w : World) (x y : Int) (b : Nat) (hb : b = w.heap.size) : Rd (w.alloc (.cells #[.int .i64 x, .int .i64 y] 3)) (some ⟨b, 0, none⟩) [x, y] := fun _ => by
  subst hb
  refine ⟨_, 0, rfl, by simp, fun i hi => ?_⟩
  have : i = 0 ∨ i = 1 := by simp at hi; omega
  rcases this with rfl | rfl <;> (rw [World.cell?_alloc_at _ _ _ _ rfl]; rfl)
theorem opt_two (w : World) (x y : Int) (b : Nat) (hb : b = w.heap.size) : OptSl (w.alloc (.cells #[.int .i64 x, .int .i64 y] 3)) (.slice (some ⟨b, 0, none⟩) 2 2) (some [x, y]) :=
  ⟨⟨_, _, _, rfl⟩, _, 2, rfl, by simp, by omega, fun h => (by cases h), rd_two w x y b hb⟩

/-- A counter of a search. -/
def SrI (w : World) (hi : Nat) (G : Nat → Option (List Int)) (r : Option (List Int)) (g : Nat) (v : Value) (wr : World) : Prop :=
  ∃ x : Nat, v = .int .i64 ((x : Int) + 1) ∧ x ≤ hi ∧ Hid (g = hi - x ∧ r = firstFrom G (hi - x) (x + 1)) ∧ Hid (Below w.heap.size w wr)

set_option maxHeartbeats 1000000 in
theorem sum_calls (A : Option Addr) (n c : Nat) (cs : List Int) (w : World) (hn : n = cs.length) (hn2 : n ≤ 1000) (hA : Rd w A cs) (hl : n ≤ c) (hc : c ≤ 9223372036854775807) :
    Calls Try.prog 73 #[.slice A n c] w fun e w' => ∃ v, e = .returned v ∧ OptSl w' v (sumF cs) ∧ Below w.heap.size w w' := by
  have HN := Lib.hid hn
  have HA := Lib.hid hA
  clear hn hA
  go_enter Try.func73, Try.ntmps73
  go_wp2_with fail
  go_loopg [3] n (SrI w n (fun x => firstFrom (sumAt cs x) (n + 1 - x - x) x) (sumF cs))
  case atStart => exact ⟨0, rfl, Nat.zero_le _, ⟨rfl, by unfold sumF; rw [← HN.out]; rfl⟩, Below.refl _ _⟩
  case round =>
    obtain ⟨x, rfl, hx, HG, HB⟩ := hrel
    by_cases hlt : x < n
    · go_wp2_with fail
      go_loopg [4] (n - (2 * x + 1)) (fun g v wr' => ∃ y : Nat, v = .int .i64 ((y : Int) + 1) ∧ x ≤ y ∧ y ≤ n ∧ Hid (g = n - (x + y + 1) ∧ firstFrom (sumAt cs (x + 1)) (n + 1 - (x + 1) - (x + 1)) (x + 1) = firstFrom (sumAt cs (x + 1)) (n - (x + y + 1)) (y + 1)) ∧ Hid (Below w.heap.size w wr'))
      case atStart => exact ⟨x, rfl, Nat.le_refl _, by omega, ⟨by omega, by rw [show n + 1 - (x + 1) - (x + 1) = n - (x + x + 1) by omega]⟩, HB.out⟩
      case round =>
        obtain ⟨y, rfl, hxy, hyn, HG2, HB2⟩ := hrel
        by_cases hlt2 : x + y + 1 < n
        · obtain ⟨b, o, rfl, hb, hc1⟩ := HA.out.at x (by have := HN.out; omega)
          obtain ⟨b', o', e', _, hc2⟩ := HA.out.at y (by have := HN.out; omega)
          cases e'
          obtain ⟨b', o', e', _, hc3⟩ := HA.out.at (x + y + 1) (by have := HN.out; omega)
          cases e'
          have d1 := (HB2.out.cell (p := ⟨b, o + x, none⟩) hb).trans hc1
          have d2 := (HB2.out.cell (p := ⟨b, o + y, none⟩) hb).trans hc2
          have d3 := (HB2.out.cell (p := ⟨b, o + (x + y + 1), none⟩) hb).trans hc3
          clear hc1 hc2 hc3
          have b1 : (0 : Int) ≤ x ∧ (x : Int) < n := by omega
          have b2 : (0 : Int) ≤ y ∧ (y : Int) < n := by omega
          have b3 : (0 : Int) ≤ ((x + y + 1 : Nat) : Int) ∧ ((x + y + 1 : Nat) : Int) < n := by omega
          have w1 : IntKind.i64.wrap (x : Int) = x := IntWalk.i64_in _ (by omega)
          have w2 : IntKind.i64.wrap (y : Int) = y := IntWalk.i64_in _ (by omega)
          have w3 : IntKind.i64.wrap ((x : Int) + 1 + ((y : Int) + 1)) = (x : Int) + 1 + ((y : Int) + 1) := IntWalk.i64_in _ (by omega)
          have w4 : IntKind.i64.wrap ((x : Int) + 1 + ((y : Int) + 1) - 1) = ((x + y + 1 : Nat) : Int) := by rw [IntWalk.i64_in _ (by omega)]; omega
          have px : x < cs.length := by have := HN.out; omega
          have py : y < cs.length := by have := HN.out; omega
          have pz : x + y + 1 < cs.length := by have := HN.out; omega
          have HS := Lib.hid (sumAt_succ cs x y px py pz)
          cases q1 : (cs[x]'px == cs[y]'py)
          · have HQ : Hid (sumAt cs (x + 1) (y + 1) = none) := by show sumAt cs (x + 1) (y + 1) = none; rw [HS.out, q1]; rfl
            clear HS
            go_wp2_with fail
            go_quiet (fail)
            clear w1 w2 w3 w4 q1
            go_wp2_with fail
            go_roundg (n - (x + (y + 1) + 1))
            case measure => have := HG2.out.1; omega
            case rel => exact ⟨y + 1, by go_num, by omega, by omega, ⟨rfl, by rw [HG2.out.2, show n - (x + y + 1) = n - (x + (y + 1) + 1) + 1 by omega, firstFrom_none HQ.out]⟩, below_drewN HB2.out _⟩
          · cases q2 : (cs[x]'px == cs[x + y + 1]'pz)
            · have HQ : Hid (sumAt cs (x + 1) (y + 1) = none) := by show sumAt cs (x + 1) (y + 1) = none; rw [HS.out, q1, q2]; rfl
              clear HS
              go_wp2_with fail
              go_quiet (fail)
              clear w1 w2 w3 w4 q1 q2
              go_wp2_with fail
              go_roundg (n - (x + (y + 1) + 1))
              case measure => have := HG2.out.1; omega
              case rel => exact ⟨y + 1, by go_num, by omega, by omega, ⟨rfl, by rw [HG2.out.2, show n - (x + y + 1) = n - (x + (y + 1) + 1) + 1 by omega, firstFrom_none HQ.out]⟩, below_drewN HB2.out _⟩
            · have HQ : Hid (sumAt cs (x + 1) (y + 1) = some [(x : Int) + 1, (y : Int) + 1]) := by show sumAt cs (x + 1) (y + 1) = _; rw [HS.out, q1, q2]; rfl
              clear HS
              go_wp2_with fail
              go_quiet (fail)
              clear w1 w2 w3 w4 q1 q2
              go_wp2_with fail
              go_ret
              refine ⟨_, rfl, ?_, (below_drewN HB2.out _).alloc (by have := HB2.out.size; simp; omega) _⟩
              have e1 := HG2.out.2
              rw [show n - (x + y + 1) = n - (x + (y + 1) + 1) + 1 by omega, firstFrom_some HQ.out] at e1
              have e2 := HG.out.2
              rw [show n - x = n - (x + 1) + 1 by omega] at e2
              rw [e2.trans (firstFrom_some (g := fun x => firstFrom (sumAt cs x) (n + 1 - x - x) x) e1)]
              exact opt_two _ _ _ _ (by simp)
        · go_wp2_with fail
          go_roundg (n - (x + 1))
          case measure => have := HG.out.1; omega
          case rel =>
            refine ⟨x + 1, by go_num, by omega, ⟨rfl, ?_⟩, HB2.out⟩
            have e1 := HG2.out.2
            rw [show n - (x + y + 1) = 0 by omega] at e1
            rw [HG.out.2, show n - x = n - (x + 1) + 1 by omega]
            exact firstFrom_none (g := fun x => firstFrom (sumAt cs x) (n + 1 - x - x) x) e1
    · go_wp2_with fail
      go_ret
      refine ⟨_, rfl, ?_, HB.out⟩
      rw [HG.out.2, show n - x = 0 by omega]
      rfl
end Go.Proofs.Ythnhmfmlhlpggaa.Pt
