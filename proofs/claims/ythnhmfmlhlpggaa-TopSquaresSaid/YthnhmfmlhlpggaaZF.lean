/- What is proved: Subset (contracts of functions of weigh, and what they need). No condition beyond those in each statement. -/
import Derived.Test.YthnhmfmlhlpggaaZE
import Derived.Test.YthnhmfmlhlpggaaZA
namespace Go.Proofs.Ythnhmfmlhlpggaa
open Go.RowKit Go.Shelf
set_option maxRecDepth 100000

/-- Weights as they must be. -/
structure WsOk (ws : List Int) : Prop where
  ne : 1 ≤ ws.length
  few : ws.length ≤ 12
  all : ∀ x ∈ ws, 1 ≤ x ∧ x ≤ 100000
  up : ∀ i (h : i + 1 < ws.length), ws[i] < ws[i + 1]

set_option maxHeartbeats 1000000 in
theorem wcheck_calls (ws : List Int) (hok : WsOk ws) (A : Option Addr) (n c : Nat) (hn : n = ws.length) (hl : n ≤ c) (_hc : c ≤ 9223372036854775807) (w : World) (hA : Rd w A ws) :
    Calls Try.prog 85 #[.slice A n c, .int .i64 12] w fun e w' => e = .returned (.int .i64 0) ∧ Below w.heap.size w w' := by
  have h1 := hok.ne
  have h2 := hok.few
  have hn1 : 1 ≤ n := by omega
  have hn2 : n ≤ 12 := by omega
  obtain ⟨b, o, rfl, hb, hc0⟩ := hA.at 0 (by omega)
  obtain ⟨b', o', e', hb', hc1⟩ := hA.at (n - 1) (by omega)
  cases e'
  have z0 := hok.all _ (List.getElem_mem (l := ws) (n := 0) (by omega))
  have z1 := hok.all _ (List.getElem_mem (l := ws) (n := n - 1) (by omega))
  generalize ws[0]'(by omega) = x0 at hc0 z0
  generalize ws[n - 1]'(by omega) = x1 at hc1 z1
  obtain ⟨z00, z01⟩ := z0
  obtain ⟨z10, z11⟩ := z1
  have HN := Lib.hid hn
  have HA := Lib.hid hA
  have HOK := Lib.hid hok
  obtain ⟨k, rfl⟩ : ∃ k, n = k + 1 := ⟨n - 1, by omega⟩
  clear hn hA hok h1 h2
  simp only [Nat.add_sub_cancel, Nat.add_zero] at hc0 hc1
  have hq1 : ((k : Int) + 1 == 0) = false := by rw [beq_eq_false_iff_ne]; omega
  have hq2 : decide (x0 < 1) = false := by simp; omega
  have hq3 : decide (100000 < x1) = false := by simp; omega
  go_enter Try.func85, Try.ntmps85
  go_wp2_with fail
  go_loopw [5] (fun v wr => ∃ i : Nat, v = .int .i64 i ∧ 1 ≤ i ∧ i ≤ k + 1 ∧ Hid (Below w.heap.size w wr)) (fun v _ => k + 1 - (intOf v).toNat)
  case atStart => exact ⟨1, rfl, by omega, by omega, Below.refl _ _⟩
  case round =>
    obtain ⟨i, rfl, hi1, hi, HB⟩ := hrel
    by_cases hlt : i < k + 1
    · obtain ⟨j, rfl⟩ : ∃ j, i = j + 1 := ⟨i - 1, by omega⟩
      have hj : j + 1 < ws.length := by have := HN.out; omega
      have HUP := Lib.hid (HOK.out.up j hj)
      have HAA := HA.out.below HB.out
      obtain ⟨b1, o1, e1, hb1, k0⟩ := HAA.at (j + 1) hj
      cases e1
      obtain ⟨b2, o2, e2, hb2, k1⟩ := HAA.at j (by omega)
      cases e2
      have hup := HUP.out
      generalize ws[j]'(by omega) = y0 at k1 hup
      generalize ws[j + 1]'hj = y1 at k0 hup
      have hle : decide (y1 ≤ y0) = false := by simp; omega
      clear hc0 hc1 HAA hup hb1 hb2
      go_wp2_with fail
      have i0 : (0 : Int) ≤ (j : Int) + 1 := by omega
      have i1 : (j : Int) + 1 < (k : Int) + 1 := by omega
      have i2 : (0 : Int) ≤ (j : Int) := by omega
      have i3 : (j : Int) < (k : Int) + 1 := by omega
      go_quiet (fail)
      go_wp2_with fail
      go_roundw
      case rel => exact ⟨j + 1 + 1, by go_num, by omega, by omega, below_drewN HB.out _⟩
      case measure => simp [intOf]; omega
    · go_wp2_with fail
      go_ret
      exact ⟨rfl, HB.out⟩

theorem total_calls (ws : List Int) (hok : WsOk ws) (A : Option Addr) (n c : Nat) (t : Int) (ht : 0 ≤ t) (hn : n = ws.length) (hl : n ≤ c) (hc : c ≤ 9223372036854775807) (w : World) (hA : Rd w A ws) :
    Calls Try.prog 42 #[.slice A n c, .int .i64 12, .int .i64 t] w fun e w' => e = .returned (.int .i64 0) ∧ Below w.heap.size w w' := by
  have C := Lib.hid (wcheck_calls ws hok A n c hn hl hc w hA)
  have h2 := hok.few
  have hn2 : (n : Int) ≤ 12 := by omega
  have hq1 : decide ((n : Int) ≤ 12) = true := by simp; omega
  have hq2 : decide (t < 0) = false := by simp; omega
  clear hn hA hok h2
  go_enter Try.func42, Try.ntmps42
  go_wp2_with fail
  all_goals
    refine C.out.mono ?_
    rintro e w1 ⟨rfl, hb⟩
    have HB := Lib.hid hb
    clear hb
    go_wp2_with fail
    go_ret
    exact ⟨rfl, HB.out⟩

theorem subsets_calls (A : Option Addr) (n c : Nat) (w : World) :
    Calls Try.prog 44 #[.slice A n c] w fun e w' => e = .returned (.func (.func 86) #[] #[.pointer (some ⟨w.heap.size, 0, none⟩)]) ∧ w.alloc (.cells #[.slice A n c] 27) = w' := by
  go_enter Try.func44, Try.ntmps44
  go_wp2
  go_ret
  exact ⟨rfl, rfl⟩

/-- A list with no error, or none with one. -/
def SubPost (w : World) (r : Option Sub) (e : Ending) (w' : World) : Prop :=
  match r with
  | none => e = .returned (.tuple #[.slice none 0 0, .int .i64 5]) ∧ Below w.heap.size w w'
  | some (xs, _) => ∃ A n c, e = .returned (.tuple #[.slice A n c, .int .i64 0]) ∧ n = xs.length ∧ n ≤ c ∧ c ≤ 9223372036854775807 ∧ Rd w' A xs ∧ Below w.heap.size w w'

set_option maxHeartbeats 1000000 in
theorem Subset_calls (ws : List Int) (hok : WsOk ws) (A : Option Addr) (n c : Nat) (t : Int) (ht : 0 ≤ t) (hn : n = ws.length) (hl : n ≤ c) (hc : c ≤ 9223372036854775807) (w : World) (hA : Rd w A ws) :
    Calls Try.prog 13 #[.slice A n c, .int .i64 t] w (SubPost w (subF ws t)) := by
  have hb0 : Below w.heap.size w (w.alloc (.cells #[.int .i64 t] 3)) := (Below.refl _ _).alloc (Nat.le_refl _) _
  have C1 := Lib.hid (total_calls ws hok A n c t ht hn hl hc (w.alloc (.cells #[.int .i64 t] 3)) (hA.below hb0))
  have HOK := Lib.hid hok
  have HN := Lib.hid hn
  have HA := Lib.hid (hA.below hb0)
  have HB0 := Lib.hid hb0
  have hct : (w.alloc (.cells #[.int .i64 t] 3)).cell? ⟨w.heap.size, 0, none⟩ = some (.int .i64 t) := Pt.cell_new _ _ _ _ rfl
  clear hok hn hA hb0
  go_enter Try.func13, Try.ntmps13
  go_wp2_with fail
  refine C1.out.mono ?_
  rintro e w1 ⟨rfl, hb1⟩
  have HB1 := Lib.hid hb1
  have hct1 := (hb1.cell (p := ⟨w.heap.size, 0, none⟩) (by simp)).trans hct
  clear hb1 hct
  go_wp2_with fail
  refine (subsets_calls _ _ _ _).mono ?_
  rintro e w2 ⟨rfl, hw2⟩
  have HA2 := Lib.hid (HA.out.below HB1.out)
  have HB2 : Hid (Below w.heap.size w w2) := by
    show Below _ _ _
    rw [← hw2]; exact (HB0.out.trans (HB1.out.mono (by simp))).alloc (by have := HB1.out.size; simp at this; omega) _
  have hc1 : w2.cell? ⟨w1.heap.size, 0, none⟩ = some (.slice A n c) := by rw [← hw2]; exact Pt.cell_new _ _ _ _ rfl
  have hb12 : Below w1.heap.size w1 w2 := by rw [← hw2]; exact (Below.refl _ _).alloc (Nat.le_refl _) _
  have hct2 := (hb12.cell (p := ⟨w.heap.size, 0, none⟩) (Nat.lt_of_lt_of_le (by simp) HB1.out.size)).trans hct1
  have HA3 := Lib.hid (HA2.out.below hb12)
  have C2 := Lib.hid (first43_calls ws A n c HN.out (by have := HOK.out.few; have := HN.out; omega) hl hc (fun x hx => by have := HOK.out.all x hx; omega) w2 HA3.out t w1.heap.size w.heap.size hc1 hct2)
  clear hw2 hc1 hb12 hct2 hct1
  go_wp2_with fail
  refine C2.out.mono ?_
  intro e w3 h3
  cases hr : subF ws t with
  | none =>
    rw [hr] at h3
    obtain ⟨rfl, hb3⟩ := h3
    have HB3 := Lib.hid (HB2.out.trans (hb3.mono HB2.out.size))
    have HR := Lib.hid hr
    clear hb3 hr
    go_wp2_with fail
    go_ret2
    rw [HR.out]
    exact ⟨rfl, HB3.out.alloc HB3.out.size _⟩
  | some p =>
    obtain ⟨xs, s⟩ := p
    rw [hr] at h3
    obtain ⟨A', n', c', rfl, h1, h2, h3, h4, hb3⟩ := h3
    have HB3 := Lib.hid (HB2.out.trans (hb3.mono HB2.out.size))
    have HR := Lib.hid hr
    have H1 := Lib.hid h1
    have H4 := Lib.hid h4
    clear hb3 hr h1 h4
    go_wp2_with fail
    go_ret2
    rw [HR.out]
    exact ⟨A', n', c', rfl, H1.out, h2, h3, H4.out.below ((Below.refl _ _).alloc (Nat.le_refl _) _), HB3.out.alloc HB3.out.size _⟩
end Go.Proofs.Ythnhmfmlhlpggaa
