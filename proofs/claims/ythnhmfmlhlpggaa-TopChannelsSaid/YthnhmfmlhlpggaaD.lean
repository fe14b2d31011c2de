/- What is proved: check. No condition beyond those in each statement. -/
import Derived.Test.YthnhmfmlhlpggaaC
namespace Go.Proofs.Ythnhmfmlhlpggaa
open Go.RowKit
set_option maxRecDepth 100000

/-- What a slice of edges reads as. -/
def RdE (w : World) (A : Option Addr) (es : List (Int × Int)) : Prop :=
  es ≠ [] → ∃ b o, A = some ⟨b, o, none⟩ ∧ b < w.heap.size ∧ ∀ i (hi : i < es.length), w.cell? ⟨b, o + i * 2, none⟩ = some (.int .i64 es[i].1) ∧ w.cell? ⟨b, o + i * 2 + 1, none⟩ = some (.int .i64 es[i].2)
theorem RdE.below {w w' : World} {A : Option Addr} {es : List (Int × Int)} (h : RdE w A es) (hb : Below w.heap.size w w') : RdE w' A es := fun hne => by
  obtain ⟨b, o, e, hlt, hc⟩ := h hne
  exact ⟨b, o, e, Nat.lt_of_lt_of_le hlt hb.size, fun i hi => ⟨(hb.cell (p := ⟨b, o + i * 2, none⟩) hlt).trans (hc i hi).1, (hb.cell (p := ⟨b, o + i * 2 + 1, none⟩) hlt).trans (hc i hi).2⟩⟩
theorem RdE.at {w : World} {A : Option Addr} {es : List (Int × Int)} (h : RdE w A es) (i : Nat) (hi : i < es.length) :
    ∃ b o, A = some ⟨b, o, none⟩ ∧ b < w.heap.size ∧ w.cell? ⟨b, o + i * 2, none⟩ = some (.int .i64 es[i].1) ∧ w.cell? ⟨b, o + i * 2 + 1, none⟩ = some (.int .i64 es[i].2) := by
  obtain ⟨b, o, e, hlt, hc⟩ := h (fun e => by subst e; simp at hi)
  exact ⟨b, o, e, hlt, hc i hi⟩

def badE (n : Int) (e : Int × Int) : Bool := decide (min e.1 e.2 < 0) || decide (n ≤ max e.1 e.2) || e.1 == e.2
def checkF (n : Int) (es : List (Int × Int)) : Int :=
  if 30 < es.length then 3 else if n < 1 ∨ 8 < n then 1 else if es.any (badE n) then 1 else 0
theorem any_take_succE {p : Int × Int → Bool} {xs : List (Int × Int)} {k : Nat} (hk : k < xs.length) (h : (xs.take k).any p = false) (h' : p xs[k] = false) : (xs.take (k + 1)).any p = false := by
  rw [List.take_succ_eq_append_getElem hk, List.any_append, h]; simp [h']
def CheckI (w : World) (n : Int) (es : List (Int × Int)) (m : Nat) (q : Value) (wr : World) : Prop := ∃ i : Nat, q = .int .i64 i ∧ i ≤ m ∧ Hid ((es.take i).any (badE n) = false) ∧ Hid (Below w.heap.size w wr)

set_option maxHeartbeats 2000000 in
theorem check_calls (A : Option Addr) (m c : Nat) (es : List (Int × Int)) (n : Int) (w : World) (hn : m = es.length) (hA : RdE w A es) (hl : m ≤ c) (hc : c ≤ 9223372036854775807) :
    Calls Try.prog 92 #[.int .i64 n, .slice A m c] w fun e w' => e = .returned (.int .i64 (checkF n es)) ∧ Below w.heap.size w w' := by
  have HN := Lib.hid hn
  have HA := Lib.hid hA
  clear hn hA
  have hnn : (m : Int) ≤ 9223372036854775807 := by omega
  by_cases h1 : 30 < m
  · have HR : Hid (checkF n es = 3) := by show _ = _; unfold checkF; rw [if_pos (by have := HN.out; omega)]
    go_enter Try.func92, Try.ntmps92
    go_wp2_with fail
    go_ret
    exact ⟨ret_int HR.out.symm, Below.refl _ _⟩
  · by_cases h2 : n < 1 ∨ 8 < n
    · have HR : Hid (checkF n es = 1) := by show _ = _; unfold checkF; rw [if_neg (by have := HN.out; omega), if_pos h2]
      rcases h2 with h2 | h2
      all_goals
        go_enter Try.func92, Try.ntmps92
        go_wp2_with fail
        all_goals
          go_ret
          exact ⟨ret_int HR.out.symm, Below.refl _ _⟩
    · have HR : Hid (checkF n es = if es.any (badE n) then 1 else 0) := by show _ = _; unfold checkF; rw [if_neg (by have := HN.out; omega), if_neg h2]
      obtain ⟨h3, h4⟩ : 1 ≤ n ∧ n ≤ 8 := by omega
      clear h2
      go_enter Try.func92, Try.ntmps92
      go_wp2_with fail
      go_loopw [20] (CheckI w n es m) (fun q _ => m - (intOf q).toNat)
      case atStart => exact ⟨0, rfl, Nat.zero_le _, rfl, Below.refl _ _⟩
      case round =>
        obtain ⟨i, rfl, hi, HG, HB⟩ := hrel
        by_cases hlt : i < m
        · have hil : i < es.length := by have := HN.out; omega
          obtain ⟨b, o, rfl, hb, hc1, hc2⟩ := HA.out.at i hil
          have d1 := (HB.out.cell (p := ⟨b, o + i * 2, none⟩) hb).trans hc1
          have d2 := (HB.out.cell (p := ⟨b, o + i * 2 + 1, none⟩) hb).trans hc2
          clear hc1 hc2
          obtain ⟨x, hx⟩ : ∃ x, x = es[i].1 := ⟨_, rfl⟩
          obtain ⟨y, hy⟩ : ∃ x, x = es[i].2 := ⟨_, rfl⟩
          have hxy : es[i] = (x, y) := by rw [hx, hy]
          rw [← hx] at d1
          rw [← hy] at d2
          have HXY := Lib.hid hxy
          clear hx hy hxy
          cases hbad : badE n (x, y)
          · have HBD : Hid (badE n (es[i]'hil) = false) := by show _ = _; rw [HXY.out]; exact hbad
            simp [badE] at hbad
            have hne : (x == y) = false := by rw [beq_eq_false_iff_ne]; omega
            have g1 : 0 ≤ x ∧ x < n ∧ 0 ≤ y ∧ y < n := by omega
            clear hbad
            go_wp2_with fail
            all_goals
              go_simp
              go_roundw
              case rel => exact ⟨i + 1, by go_num, by omega, any_take_succE hil HG.out HBD.out, HB.out.alloc HB.out.size _⟩
              case measure => simp [intOf]; omega
          · have HE : Hid (checkF n es = 1) := by
              show _ = _
              rw [HR.out, if_pos]
              rw [List.any_eq_true]
              exact ⟨es[i], List.getElem_mem _, by rw [HXY.out]; exact hbad⟩
            have HBT : Hid (badE n (x, y) = true) := hbad
            clear hbad
            cases hne : (x == y)
            all_goals
              go_wp2_with fail
              all_goals first
                | (go_ret; exact ⟨ret_int HE.out.symm, HB.out.alloc HB.out.size _⟩)
                | (exfalso; have := HBT.out; simp [badE] at this; simp at hne; omega)
        · have HE : Hid (checkF n es = 0) := by
            show _ = _
            have := HG.out
            rw [show i = es.length by have := HN.out; omega, List.take_length] at this
            rw [HR.out, this]; rfl
          go_wp2_with fail
          go_ret
          exact ⟨ret_int HE.out.symm, HB.out⟩
end Go.Proofs.Ythnhmfmlhlpggaa
