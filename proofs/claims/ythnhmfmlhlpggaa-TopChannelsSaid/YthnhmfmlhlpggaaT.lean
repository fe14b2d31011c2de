/- What is proved: Ones(10). No condition beyond those in each statement. -/
import Derived.Test.YthnhmfmlhlpggaaO
namespace Go.Proofs.Ythnhmfmlhlpggaa
open Go.RowKit
set_option maxRecDepth 100000

def kolL (n : Nat) : List Int := [1, 2, 2, 1, 1, 2, 1, 2, 2, 1].take n
def kolN : Nat → Nat
  | 0 => 0
  | 1 => 1
  | 2 => 3
  | 3 => 5
  | 4 => 6
  | 5 => 7
  | 6 => 9
  | 7 => 10
  | _ => 10
def KoI (w : World) (v7 v8 : Value) (wr : World) : Prop := ∃ r, r ≤ 7 ∧ v8 = .int .i64 (r : Nat) ∧ ((r = 0 ∧ v7 = .slice none 0 0) ∨ 0 < r ∧ ∃ g c, v7 = .slice (some ⟨g, 0, none⟩) (kolN r) c ∧ Arr wr w.heap.size g c (kolL (kolN r))) ∧ Below w.heap.size w wr
def KiI (w : World) (a m : Nat) (v7 v32 : Value) (wr : World) : Prop := ∃ j, j ≤ m ∧ v32 = .int .i64 (j : Nat) ∧ Ow wr w.heap.size v7 (kolL (a + j)) ∧ Below w.heap.size w wr
theorem ow_arr {w : World} {base : Nat} {v : Value} {xs : List Int} (h : Ow w base v xs) (hne : 0 < xs.length) : ∃ g c, v = .slice (some ⟨g, 0, none⟩) xs.length c ∧ Arr w base g c xs := by
  rcases h.2 with ⟨_, h0⟩ | ⟨g, cap, cur, rfl, _⟩
  · omega
  · exact ⟨g, cap, rfl, h⟩
set_option maxHeartbeats 8000000 in
theorem kolakoski_calls (w : World) : Calls Try.prog 74 #[.int .i64 1, .int .i64 2, .int .i64 10] w fun e w' => ∃ g, e = .returned (.slice (some ⟨g, 0, none⟩) 10 10) ∧ Rd w' (some ⟨g, 0, none⟩) (kolL 10) ∧ Below w.heap.size w w' := by
  go_enter Try.func74, Try.ntmps74
  go_wp2_with fail
  go_loopw [7, 8, 9, 10, 31, 32] (fun v7 v8 _ _ _ _ wr => KoI w v7 v8 wr) (fun _ v8 _ _ _ _ _ => 8 - (intOf v8).toNat)
  case atStart => exact ⟨0, by omega, rfl, .inl ⟨rfl, rfl⟩, Below.refl _ _⟩
  case round =>
    obtain ⟨r, hr, rfl, hv, hB⟩ := hrel
    have HB := Lib.hid hB
    clear hB
    match r, hr with
    | 7, _ =>
      obtain ⟨h0, _⟩ | ⟨_, g, c, rfl, hA⟩ := hv
      · omega
      · have hbd : 10 ≤ c := hA.bd.1
        have hbd2 := hA.bd.2
        have HA := Lib.hid hA
        have z1 : (10 : Int) ≤ (c : Int) := by omega
        have e10 : kolN 7 = 10 := rfl
        rw [e10]
        clear hA
        go_wp2_with fail
        go_ret
        exact ⟨g, rfl, HA.out.rd, HB.out⟩
    | 0, _ =>
      obtain rfl : u7 = .slice none 0 0 := by
        rcases hv with ⟨_, h⟩ | ⟨h, _⟩
        · exact h
        · omega
      have hO : Ow wr w.heap.size (.slice none 0 0) (kolL 0) := ⟨rfl, .inl ⟨rfl, rfl⟩⟩
      have HO := Lib.hid hO
      clear hO hv
      go_wp2_with fail
      go_loopw [7, 32] (fun v7 v32 wr => KiI w 0 1 v7 v32 wr) (fun _ v32 _ => 1 - (intOf v32).toNat)
      case atStart => exact ⟨0, by omega, rfl, HO.out, HB.out⟩
      case round =>
        obtain ⟨j, hj, rfl, hO, hB⟩ := hrel
        have HO2 := Lib.hid hO
        have HB2 := Lib.hid hB
        clear hO hB HO HB
        match j, hj with
        | 0, _ =>
          obtain ⟨A3, n3, c3, w3, hrun, ho3, hb3⟩ := ow_push 1 HO2.out HB2.out.size (by decide)
          have HRUN := Lib.hid hrun
          have H3 := Lib.hid (And.intro ho3 (HB2.out.trans hb3))
          clear hrun ho3 hb3
          go_wp2_with (at_builtin; refine wpList_app rfl (.tmp 34) (.tmp 36) 27 27 rfl rfl _ _ rfl rfl HRUN.out ?_)
          go_simp
          go_roundw
          case rel => exact ⟨1, by omega, rfl, H3.out.1, H3.out.2⟩
          case measure => simp [intOf]
        | 1, _ =>
          go_wp2_with fail
          go_simp
          go_roundw
          case rel => exact ⟨1, by omega, rfl, .inr ⟨by omega, ow_arr HO2.out (by decide)⟩, HB2.out⟩
          case measure => simp [intOf]
    | 1, _ =>
      obtain ⟨g, c, rfl, hA⟩ : ∃ g c, u7 = .slice (some ⟨g, 0, none⟩) 1 c ∧ Arr wr w.heap.size g c (kolL 1) := by
        rcases hv with ⟨h, _⟩ | ⟨_, h⟩
        · omega
        · exact h
      have hO : Ow wr w.heap.size (.slice (some ⟨g, 0, none⟩) 1 c) (kolL 1) := hA
      clear hA
      have HO := Lib.hid hO
      clear hO hv
      go_wp2_with fail
      go_loopw [7, 32] (fun v7 v32 wr => KiI w 1 2 v7 v32 wr) (fun _ v32 _ => 2 - (intOf v32).toNat)
      case atStart => exact ⟨0, by omega, rfl, HO.out, HB.out⟩
      case round =>
        obtain ⟨j, hj, rfl, hO, hB⟩ := hrel
        have HO2 := Lib.hid hO
        have HB2 := Lib.hid hB
        clear hO hB HO HB
        match j, hj with
        | 0, _ =>
          obtain ⟨A3, n3, c3, w3, hrun, ho3, hb3⟩ := ow_push 2 HO2.out HB2.out.size (by decide)
          have HRUN := Lib.hid hrun
          have H3 := Lib.hid (And.intro ho3 (HB2.out.trans hb3))
          clear hrun ho3 hb3
          go_wp2_with (at_builtin; refine wpList_app rfl (.tmp 34) (.tmp 36) 27 27 rfl rfl _ _ rfl rfl HRUN.out ?_)
          go_simp
          go_roundw
          case rel => exact ⟨1, by omega, rfl, H3.out.1, H3.out.2⟩
          case measure => simp [intOf]
        | 1, _ =>
          obtain ⟨A3, n3, c3, w3, hrun, ho3, hb3⟩ := ow_push 2 HO2.out HB2.out.size (by decide)
          have HRUN := Lib.hid hrun
          have H3 := Lib.hid (And.intro ho3 (HB2.out.trans hb3))
          clear hrun ho3 hb3
          go_wp2_with (at_builtin; refine wpList_app rfl (.tmp 34) (.tmp 36) 27 27 rfl rfl _ _ rfl rfl HRUN.out ?_)
          go_simp
          go_roundw
          case rel => exact ⟨2, by omega, rfl, H3.out.1, H3.out.2⟩
          case measure => simp [intOf]
        | 2, _ =>
          go_wp2_with fail
          go_simp
          go_roundw
          case rel => exact ⟨2, by omega, rfl, .inr ⟨by omega, ow_arr HO2.out (by decide)⟩, HB2.out⟩
          case measure => simp [intOf]
    | 2, _ =>
      obtain ⟨g, c, rfl, hA⟩ : ∃ g c, u7 = .slice (some ⟨g, 0, none⟩) 3 c ∧ Arr wr w.heap.size g c (kolL 3) := by
        rcases hv with ⟨h, _⟩ | ⟨_, h⟩
        · omega
        · exact h
      have cr : wr.cell? ⟨g, 2, none⟩ = some (.int .i64 2) := hA.at 2 (by decide)
      have hO : Ow wr w.heap.size (.slice (some ⟨g, 0, none⟩) 3 c) (kolL 3) := hA
      clear hA
      have HO := Lib.hid hO
      clear hO hv
      go_wp2_with fail
      go_loopw [7, 32] (fun v7 v32 wr => KiI w 3 2 v7 v32 wr) (fun _ v32 _ => 2 - (intOf v32).toNat)
      case atStart => exact ⟨0, by omega, rfl, HO.out, HB.out⟩
      case round =>
        obtain ⟨j, hj, rfl, hO, hB⟩ := hrel
        have HO2 := Lib.hid hO
        have HB2 := Lib.hid hB
        clear hO hB HO HB
        match j, hj with
        | 0, _ =>
          obtain ⟨A3, n3, c3, w3, hrun, ho3, hb3⟩ := ow_push 1 HO2.out HB2.out.size (by decide)
          have HRUN := Lib.hid hrun
          have H3 := Lib.hid (And.intro ho3 (HB2.out.trans hb3))
          clear hrun ho3 hb3
          go_wp2_with (at_builtin; refine wpList_app rfl (.tmp 34) (.tmp 36) 27 27 rfl rfl _ _ rfl rfl HRUN.out ?_)
          go_simp
          go_roundw
          case rel => exact ⟨1, by omega, rfl, H3.out.1, H3.out.2⟩
          case measure => simp [intOf]
        | 1, _ =>
          obtain ⟨A3, n3, c3, w3, hrun, ho3, hb3⟩ := ow_push 1 HO2.out HB2.out.size (by decide)
          have HRUN := Lib.hid hrun
          have H3 := Lib.hid (And.intro ho3 (HB2.out.trans hb3))
          clear hrun ho3 hb3
          go_wp2_with (at_builtin; refine wpList_app rfl (.tmp 34) (.tmp 36) 27 27 rfl rfl _ _ rfl rfl HRUN.out ?_)
          go_simp
          go_roundw
          case rel => exact ⟨2, by omega, rfl, H3.out.1, H3.out.2⟩
          case measure => simp [intOf]
        | 2, _ =>
          go_wp2_with fail
          go_simp
          go_roundw
          case rel => exact ⟨3, by omega, rfl, .inr ⟨by omega, ow_arr HO2.out (by decide)⟩, HB2.out⟩
          case measure => simp [intOf]
    | 3, _ =>
      obtain ⟨g, c, rfl, hA⟩ : ∃ g c, u7 = .slice (some ⟨g, 0, none⟩) 5 c ∧ Arr wr w.heap.size g c (kolL 5) := by
        rcases hv with ⟨h, _⟩ | ⟨_, h⟩
        · omega
        · exact h
      have cr : wr.cell? ⟨g, 3, none⟩ = some (.int .i64 1) := hA.at 3 (by decide)
      have hO : Ow wr w.heap.size (.slice (some ⟨g, 0, none⟩) 5 c) (kolL 5) := hA
      clear hA
      have HO := Lib.hid hO
      clear hO hv
      go_wp2_with fail
      go_loopw [7, 32] (fun v7 v32 wr => KiI w 5 1 v7 v32 wr) (fun _ v32 _ => 1 - (intOf v32).toNat)
      case atStart => exact ⟨0, by omega, rfl, HO.out, HB.out⟩
      case round =>
        obtain ⟨j, hj, rfl, hO, hB⟩ := hrel
        have HO2 := Lib.hid hO
        have HB2 := Lib.hid hB
        clear hO hB HO HB
        match j, hj with
        | 0, _ =>
          obtain ⟨A3, n3, c3, w3, hrun, ho3, hb3⟩ := ow_push 2 HO2.out HB2.out.size (by decide)
          have HRUN := Lib.hid hrun
          have H3 := Lib.hid (And.intro ho3 (HB2.out.trans hb3))
          clear hrun ho3 hb3
          go_wp2_with (at_builtin; refine wpList_app rfl (.tmp 34) (.tmp 36) 27 27 rfl rfl _ _ rfl rfl HRUN.out ?_)
          go_simp
          go_roundw
          case rel => exact ⟨1, by omega, rfl, H3.out.1, H3.out.2⟩
          case measure => simp [intOf]
        | 1, _ =>
          go_wp2_with fail
          go_simp
          go_roundw
          case rel => exact ⟨4, by omega, rfl, .inr ⟨by omega, ow_arr HO2.out (by decide)⟩, HB2.out⟩
          case measure => simp [intOf]
    | 4, _ =>
      obtain ⟨g, c, rfl, hA⟩ : ∃ g c, u7 = .slice (some ⟨g, 0, none⟩) 6 c ∧ Arr wr w.heap.size g c (kolL 6) := by
        rcases hv with ⟨h, _⟩ | ⟨_, h⟩
        · omega
        · exact h
      have cr : wr.cell? ⟨g, 4, none⟩ = some (.int .i64 1) := hA.at 4 (by decide)
      have hO : Ow wr w.heap.size (.slice (some ⟨g, 0, none⟩) 6 c) (kolL 6) := hA
      clear hA
      have HO := Lib.hid hO
      clear hO hv
      go_wp2_with fail
      go_loopw [7, 32] (fun v7 v32 wr => KiI w 6 1 v7 v32 wr) (fun _ v32 _ => 1 - (intOf v32).toNat)
      case atStart => exact ⟨0, by omega, rfl, HO.out, HB.out⟩
      case round =>
        obtain ⟨j, hj, rfl, hO, hB⟩ := hrel
        have HO2 := Lib.hid hO
        have HB2 := Lib.hid hB
        clear hO hB HO HB
        match j, hj with
        | 0, _ =>
          obtain ⟨A3, n3, c3, w3, hrun, ho3, hb3⟩ := ow_push 1 HO2.out HB2.out.size (by decide)
          have HRUN := Lib.hid hrun
          have H3 := Lib.hid (And.intro ho3 (HB2.out.trans hb3))
          clear hrun ho3 hb3
          go_wp2_with (at_builtin; refine wpList_app rfl (.tmp 34) (.tmp 36) 27 27 rfl rfl _ _ rfl rfl HRUN.out ?_)
          go_simp
          go_roundw
          case rel => exact ⟨1, by omega, rfl, H3.out.1, H3.out.2⟩
          case measure => simp [intOf]
        | 1, _ =>
          go_wp2_with fail
          go_simp
          go_roundw
          case rel => exact ⟨5, by omega, rfl, .inr ⟨by omega, ow_arr HO2.out (by decide)⟩, HB2.out⟩
          case measure => simp [intOf]
    | 5, _ =>
      obtain ⟨g, c, rfl, hA⟩ : ∃ g c, u7 = .slice (some ⟨g, 0, none⟩) 7 c ∧ Arr wr w.heap.size g c (kolL 7) := by
        rcases hv with ⟨h, _⟩ | ⟨_, h⟩
        · omega
        · exact h
      have cr : wr.cell? ⟨g, 5, none⟩ = some (.int .i64 2) := hA.at 5 (by decide)
      have hO : Ow wr w.heap.size (.slice (some ⟨g, 0, none⟩) 7 c) (kolL 7) := hA
      clear hA
      have HO := Lib.hid hO
      clear hO hv
      go_wp2_with fail
      go_loopw [7, 32] (fun v7 v32 wr => KiI w 7 2 v7 v32 wr) (fun _ v32 _ => 2 - (intOf v32).toNat)
      case atStart => exact ⟨0, by omega, rfl, HO.out, HB.out⟩
      case round =>
        obtain ⟨j, hj, rfl, hO, hB⟩ := hrel
        have HO2 := Lib.hid hO
        have HB2 := Lib.hid hB
        clear hO hB HO HB
        match j, hj with
        | 0, _ =>
          obtain ⟨A3, n3, c3, w3, hrun, ho3, hb3⟩ := ow_push 2 HO2.out HB2.out.size (by decide)
          have HRUN := Lib.hid hrun
          have H3 := Lib.hid (And.intro ho3 (HB2.out.trans hb3))
          clear hrun ho3 hb3
          go_wp2_with (at_builtin; refine wpList_app rfl (.tmp 34) (.tmp 36) 27 27 rfl rfl _ _ rfl rfl HRUN.out ?_)
          go_simp
          go_roundw
          case rel => exact ⟨1, by omega, rfl, H3.out.1, H3.out.2⟩
          case measure => simp [intOf]
        | 1, _ =>
          obtain ⟨A3, n3, c3, w3, hrun, ho3, hb3⟩ := ow_push 2 HO2.out HB2.out.size (by decide)
          have HRUN := Lib.hid hrun
          have H3 := Lib.hid (And.intro ho3 (HB2.out.trans hb3))
          clear hrun ho3 hb3
          go_wp2_with (at_builtin; refine wpList_app rfl (.tmp 34) (.tmp 36) 27 27 rfl rfl _ _ rfl rfl HRUN.out ?_)
          go_simp
          go_roundw
          case rel => exact ⟨2, by omega, rfl, H3.out.1, H3.out.2⟩
          case measure => simp [intOf]
        | 2, _ =>
          go_wp2_with fail
          go_simp
          go_roundw
          case rel => exact ⟨6, by omega, rfl, .inr ⟨by omega, ow_arr HO2.out (by decide)⟩, HB2.out⟩
          case measure => simp [intOf]
    | 6, _ =>
      obtain ⟨g, c, rfl, hA⟩ : ∃ g c, u7 = .slice (some ⟨g, 0, none⟩) 9 c ∧ Arr wr w.heap.size g c (kolL 9) := by
        rcases hv with ⟨h, _⟩ | ⟨_, h⟩
        · omega
        · exact h
      have cr : wr.cell? ⟨g, 6, none⟩ = some (.int .i64 1) := hA.at 6 (by decide)
      have hO : Ow wr w.heap.size (.slice (some ⟨g, 0, none⟩) 9 c) (kolL 9) := hA
      clear hA
      have HO := Lib.hid hO
      clear hO hv
      go_wp2_with fail
      go_loopw [7, 32] (fun v7 v32 wr => KiI w 9 1 v7 v32 wr) (fun _ v32 _ => 1 - (intOf v32).toNat)
      case atStart => exact ⟨0, by omega, rfl, HO.out, HB.out⟩
      case round =>
        obtain ⟨j, hj, rfl, hO, hB⟩ := hrel
        have HO2 := Lib.hid hO
        have HB2 := Lib.hid hB
        clear hO hB HO HB
        match j, hj with
        | 0, _ =>
          obtain ⟨A3, n3, c3, w3, hrun, ho3, hb3⟩ := ow_push 1 HO2.out HB2.out.size (by decide)
          have HRUN := Lib.hid hrun
          have H3 := Lib.hid (And.intro ho3 (HB2.out.trans hb3))
          clear hrun ho3 hb3
          go_wp2_with (at_builtin; refine wpList_app rfl (.tmp 34) (.tmp 36) 27 27 rfl rfl _ _ rfl rfl HRUN.out ?_)
          go_simp
          go_roundw
          case rel => exact ⟨1, by omega, rfl, H3.out.1, H3.out.2⟩
          case measure => simp [intOf]
        | 1, _ =>
          go_wp2_with fail
          go_simp
          go_roundw
          case rel => exact ⟨7, by omega, rfl, .inr ⟨by omega, ow_arr HO2.out (by decide)⟩, HB2.out⟩
          case measure => simp [intOf]
def onesN (n : Nat) : Nat := ((kolL n).filter fun x => decide (x = 1)).length
theorem ones_succ : ∀ i, i < 10 → onesN (i + 1) = onesN i + if (kolL 10).getD i 0 = 1 then 1 else 0 := by decide
theorem ones_le : ∀ i, i < 11 → onesN i ≤ 10 := by decide
def OnI (w w1 : World) (v4 v16 : Value) (wr : World) : Prop := ∃ i, i ≤ 10 ∧ v16 = .int .i64 (i : Nat) ∧ v4 = .int .i64 (onesN i : Nat) ∧ w1 = wr ∧ Below w.heap.size w wr
set_option maxHeartbeats 4000000 in
theorem ones_calls (w : World) : Calls Try.prog 33 #[.int .i64 10] w fun e w' => e = .returned (.tuple #[.int .i64 5, .int .i64 0]) ∧ Below w.heap.size w w' := by
  have CK := Lib.hid (kolakoski_calls w)
  go_enter Try.func33, Try.ntmps33
  go_wp2_with fail
  refine CK.out.mono ?_
  rintro e w1 ⟨g, rfl, hr, hb⟩
  have HR := Lib.hid hr
  have HB := Lib.hid hb
  clear hr hb
  go_wp2_with fail
  go_loopw [4, 6, 16] (fun v4 _ v16 wr => OnI w w1 v4 v16 wr) (fun _ _ v16 _ => 10 - (intOf v16).toNat)
  case atStart => exact ⟨0, by omega, rfl, rfl, rfl, HB.out⟩
  case round =>
    obtain ⟨i, hi, rfl, rfl, rfl, _⟩ := hrel
    by_cases hlt : i < 10
    · have c0 := HR.out.at2 i hlt
      rw [Nat.zero_add] at c0
      have hS := Lib.hid (ones_succ i hlt)
      have hle := ones_le i (by omega)
      obtain ⟨x, hx⟩ : ∃ x, x = (kolL 10)[i]'hlt := ⟨_, rfl⟩
      have hx2 : (kolL 10).getD i 0 = x := by rw [hx]; exact getD_lt 0 () hlt
      rw [hx2] at hS
      rw [← hx] at c0
      obtain ⟨M, hM⟩ : ∃ M, M = onesN i := ⟨_, rfl⟩
      rw [← hM] at hS hle ⊢
      clear hx hx2 hM
      by_cases h1 : x = 1
      · subst h1
        go_wp2_with fail
        go_roundw
        case rel => exact ⟨i + 1, hlt, by go_num, by rw [hS.out]; go_num, rfl, HB.out⟩
        case measure => simp [intOf]; omega
      · have h2 : (x == 1) = false := by rw [beq_eq_false_iff_ne]; exact h1
        go_wp2_with fail
        go_roundw
        case rel => exact ⟨i + 1, hlt, by go_num, by rw [hS.out, if_neg h1]; rfl, rfl, HB.out⟩
        case measure => simp [intOf]; omega
    · have hi2 : i = 10 := by omega
      subst hi2
      have h5 : onesN 10 = 5 := by decide
      rw [h5]
      go_wp2_with fail
      go_ret2
      exact ⟨rfl, HB.out⟩
end Go.Proofs.Ythnhmfmlhlpggaa
