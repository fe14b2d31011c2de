/- What is proved: In, Before, Same, Has, Perm, and cut. No condition beyond those in each statement. -/
import Derived.Test.YthnhmfmlhlpggaaA
namespace Go.Proofs.Ythnhmfmlhlpggaa
open Go.RowKit
set_option maxRecDepth 100000

def inB (v lo hi : Int) : Bool := decide (lo ≤ v) && decide (v ≤ hi)

theorem in_calls (v lo hi : Int) (w : World) : Calls Try.prog 15 #[.int .i64 v, .int .i64 lo, .int .i64 hi] w fun e w' => e = .returned (.bool (inB v lo hi)) ∧ w = w' := by
  by_cases h : lo ≤ v
  · have HD : Hid (decide (lo ≤ v) = true) := decide_eq_true h
    go_enter Try.func15, Try.ntmps15
    go_wp2_with fail
    go_ret
    exact ⟨ret_bool (by unfold inB; rw [HD.out]; rfl), rfl⟩
  · have HD : Hid (decide (lo ≤ v) = false) := decide_eq_false h
    go_enter Try.func15, Try.ntmps15
    go_wp2_with fail
    go_ret
    exact ⟨ret_bool (by unfold inB; rw [HD.out]; rfl), rfl⟩

def beforeF : List Int → List Int → Bool
  | [], [] => false
  | [], _ :: _ => true
  | _ :: _, [] => false
  | a :: s, b :: t => if a != b then decide (a < b) else beforeF s t

theorem beforeF_same : ∀ xs ys, (!beforeF xs ys && !beforeF ys xs) = decide (xs = ys)
  | [], [] => rfl
  | [], _ :: _ => by simp [beforeF]
  | _ :: _, [] => by simp [beforeF]
  | a :: s, b :: t => by
    unfold beforeF
    by_cases h : a = b
    · subst h
      simpa using beforeF_same s t
    · have h' : ¬ b = a := fun e => h e.symm
      simp [h, h']
      omega

theorem beforeF_nil (ys : List Int) : beforeF [] ys = decide (0 < ys.length) := by cases ys <;> rfl

theorem beforeF_nil' (xs : List Int) : beforeF xs [] = false := by cases xs <;> rfl

theorem before_calls (A B : Option Addr) (n c m d : Nat) (xs ys : List Int) (w : World) (hn : n = xs.length) (hA : Rd w A xs) (hl : n ≤ c) (hc : c ≤ 9223372036854775807) (hm : m = ys.length) (hB : Rd w B ys) (_hl2 : m ≤ d) (_hd : d ≤ 9223372036854775807) :
    Calls Try.prog 84 #[.slice A n c, .slice B m d] w fun e w' => e = .returned (.bool (beforeF xs ys)) ∧ Below w.heap.size w w' := by
  have HN := Lib.hid hn
  have HA := Lib.hid hA
  have HM := Lib.hid hm
  have HB := Lib.hid hB
  clear hn hA hm hB
  go_enter Try.func84, Try.ntmps84
  go_wp2_with fail
  go_loopw [5] (fun v wr => ∃ i : Nat, v = .int .i64 i ∧ i ≤ n ∧ i ≤ m ∧ Hid (beforeF xs ys = beforeF (xs.drop i) (ys.drop i)) ∧ Hid (Below w.heap.size w wr)) (fun v _ => n - (intOf v).toNat)
  case atStart => exact ⟨0, rfl, Nat.zero_le _, Nat.zero_le _, rfl, Below.refl _ _⟩
  case round =>
    obtain ⟨i, rfl, hi, hi2, HG, HW⟩ := hrel
    by_cases hlt : i < n
    · by_cases hlt2 : i < m
      · have hil : i < xs.length := by have := HN.out; omega
        have hjl : i < ys.length := by have := HM.out; omega
        obtain ⟨b, o, rfl, hb, hcell⟩ := HA.out.at i hil
        obtain ⟨b2, o2, rfl, hb2, hcell2⟩ := HB.out.at i hjl
        have d1 := (HW.out.cell (p := ⟨b, o + i, none⟩) hb).trans hcell
        have d2 := (HW.out.cell (p := ⟨b2, o2 + i, none⟩) hb2).trans hcell2
        clear hcell hcell2
        have HG2 : Hid (beforeF xs ys = if xs[i] != ys[i] then decide (xs[i] < ys[i]) else beforeF (xs.drop (i + 1)) (ys.drop (i + 1))) := by
          have := HG.out
          rw [List.drop_eq_getElem_cons hil, List.drop_eq_getElem_cons hjl] at this
          rw [this]; rfl
        obtain ⟨x, hx⟩ : ∃ x, x = xs[i] := ⟨_, rfl⟩
        obtain ⟨y, hy⟩ : ∃ x, x = ys[i] := ⟨_, rfl⟩
        rw [← hx] at d1 HG2
        rw [← hy] at d2 HG2
        clear hx hy
        have b1 : (0 : Int) ≤ i ∧ (i : Int) < n := by omega
        have b2' : (0 : Int) ≤ i ∧ (i : Int) < m := by omega
        cases q : (x != y)
        rotate_left
        · have HQ := Lib.hid q
          go_wp2_with fail
          go_quiet (fail)
          clear q
          go_wp2_with fail
          go_quiet (fail)
          go_wp2_with fail
          go_ret
          exact ⟨ret_bool (by rw [HG2.out, HQ.out]; rfl), below_drewN (below_drewN HW.out _) _⟩
        · have HQ := Lib.hid q
          go_wp2_with fail
          go_quiet (fail)
          clear q
          go_wp2_with fail
          go_roundw
          case rel => exact ⟨i + 1, by go_num, by omega, by omega, by show _ = _; rw [HG2.out, HQ.out]; rfl, below_drewN HW.out _⟩
          case measure => simp [intOf]; omega
      · have HR : Hid (beforeF xs ys = false) := by
          have := HG.out
          rw [show i = ys.length by have := HM.out; omega, List.drop_length, beforeF_nil'] at this; exact this
        have hle : ¬ n < m := by omega
        go_wp2_with fail
        go_ret
        exact ⟨ret_bool (by rw [HR.out]), HW.out⟩
    · have HR : Hid (beforeF xs ys = decide (n < m)) := by
        have := HG.out
        rw [show i = xs.length by have := HN.out; omega, List.drop_length, beforeF_nil, List.length_drop] at this
        rw [show _ = _ from this]
        have := HN.out
        have := HM.out
        exact decide_eq_decide.2 (by omega)
      go_wp2_with fail
      go_ret
      exact ⟨ret_bool (by rw [HR.out]), HW.out⟩

theorem same_calls (A B : Option Addr) (n c m d : Nat) (xs ys : List Int) (w : World) (hn : n = xs.length) (hA : Rd w A xs) (hl : n ≤ c) (hc : c ≤ 9223372036854775807) (hm : m = ys.length) (hB : Rd w B ys) (hl2 : m ≤ d) (hd : d ≤ 9223372036854775807) :
    Calls Try.prog 38 #[.slice A n c, .slice B m d] w fun e w' => e = .returned (.bool (decide (xs = ys))) ∧ Below w.heap.size w w' := by
  have C1 := Lib.hid (before_calls A B n c m d xs ys w hn hA hl hc hm hB hl2 hd)
  have C2 := Lib.hid (fun (w1 : World) (h : Below w.heap.size w w1) => before_calls B A m d n c ys xs w1 hm (hB.below h) hl2 hd hn (hA.below h) hl hc)
  have HS := Lib.hid (beforeF_same xs ys)
  clear hn hA hm hB
  go_enter Try.func38, Try.ntmps38
  go_wp2_with fail
  refine C1.out.mono ?_
  rintro e w1 ⟨rfl, hB1⟩
  have HB1 := Lib.hid hB1
  clear hB1
  cases h : beforeF xs ys
  · have HH := Lib.hid h
    clear h
    go_wp2_with fail
    refine (C2.out _ HB1.out).mono ?_
    rintro e w2 ⟨rfl, hB2⟩
    have HB2 := Lib.hid hB2
    clear hB2
    go_wp2_with fail
    go_ret
    exact ⟨ret_bool (by rw [← HS.out, HH.out]; rfl), HB1.out.trans (HB2.out.mono HB1.out.size)⟩
  · have HH := Lib.hid h
    clear h
    go_wp2_with fail
    go_ret
    exact ⟨ret_bool (by rw [← HS.out, HH.out]; rfl), HB1.out⟩

end Go.Proofs.Ythnhmfmlhlpggaa
