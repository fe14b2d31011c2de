/- What is proved: a tower that nobody made does nothing. No condition beyond those in each statement. -/
import Derived.Test.YtahjgdikjaakbaaY
namespace Go.Proofs.Ytahjgdikjaakbaa
open Go.RowKit

/-- A tower that nobody made. -/
def Bad (w : World) (p : Value) : Prop := Calls Try.prog 41 #[p] w fun e w' => e = .returned (.bool false) ∧ w = w'
section
variable {w : World} {p : Value}
theorem bad_check (h : Bad w p) (i : Int) : Calls Try.prog 45 #[p, .int .i64 i] w fun e w' => e = .returned (.int .i64 6) ∧ w = w' := by
  have C1 := Lib.hid h
  clear h
  go_enter Try.func45, Try.ntmps45
  go_wp2_with fail
  refine (show Calls Try.prog 41 #[p] w _ from C1.out).mono ?_
  rintro e w1 ⟨rfl, rfl⟩
  go_wp2_with fail
  go_ret
  exact ⟨rfl, rfl⟩
theorem bad_want (h : Bad w p) (i : Int) : Calls Try.prog 32 #[p, .int .i64 i] w fun e w' => e = .returned (.int .i64 6) ∧ w = w' := by
  have C1 := Lib.hid (bad_check h i)
  clear h
  go_enter Try.func32, Try.ntmps32
  go_wp2_with fail
  refine C1.out.mono ?_
  rintro e w1 ⟨rfl, rfl⟩
  go_wp2_with fail
  go_ret
  exact ⟨rfl, rfl⟩
theorem bad_leave (h : Bad w p) (i : Int) : Calls Try.prog 34 #[p, .int .i64 i] w fun e w' => e = .returned (.int .i64 6) ∧ w = w' := by
  have C1 := Lib.hid (bad_check h i)
  clear h
  go_enter Try.func34, Try.ntmps34
  go_wp2_with fail
  refine C1.out.mono ?_
  rintro e w1 ⟨rfl, rfl⟩
  go_wp2_with fail
  go_ret
  exact ⟨rfl, rfl⟩
theorem bad_known (h : Bad w p) (i : Int) : Calls Try.prog 26 #[p, .int .i64 i] w fun e w' => e = .returned (.slice none 0 0) ∧ w = w' := by
  have C1 := Lib.hid (bad_check h i)
  clear h
  go_enter Try.func26, Try.ntmps26
  go_wp2_with fail
  refine C1.out.mono ?_
  rintro e w1 ⟨rfl, rfl⟩
  go_wp2_with fail
  go_ret
  exact ⟨rfl, rfl⟩
theorem bad_deliver (h : Bad w p) (a b : Int) : Calls Try.prog 37 #[p, .int .i64 a, .int .i64 b] w fun e w' => e = .returned (.int .i64 6) ∧ w = w' := by
  have C1 := Lib.hid h
  clear h
  go_enter Try.func37, Try.ntmps37
  go_wp2_with fail
  refine (show Calls Try.prog 41 #[p] w _ from C1.out).mono ?_
  rintro e w1 ⟨rfl, rfl⟩
  go_wp2_with fail
  go_ret
  exact ⟨rfl, rfl⟩
theorem bad_inside (h : Bad w p) : Calls Try.prog 18 #[p] w fun e w' => e = .returned (.int .i64 (-1)) ∧ w = w' := by
  have C1 := Lib.hid h
  clear h
  go_enter Try.func18, Try.ntmps18
  go_wp2_with fail
  refine (show Calls Try.prog 41 #[p] w _ from C1.out).mono ?_
  rintro e w1 ⟨rfl, rfl⟩
  go_wp2_with fail
  go_ret
  exact ⟨rfl, rfl⟩
theorem bad_holder (h : Bad w p) : Calls Try.prog 17 #[p] w fun e w' => e = .returned (.int .i64 (-1)) ∧ w = w' := by
  have C1 := Lib.hid h
  clear h
  go_enter Try.func17, Try.ntmps17
  go_wp2_with fail
  refine (show Calls Try.prog 41 #[p] w _ from C1.out).mono ?_
  rintro e w1 ⟨rfl, rfl⟩
  go_wp2_with fail
  go_ret
  exact ⟨rfl, rfl⟩
theorem bad_waiting (h : Bad w p) : Calls Try.prog 21 #[p] w fun e w' => e = .returned (.slice none 0 0) ∧ w = w' := by
  have C1 := Lib.hid h
  clear h
  go_enter Try.func21, Try.ntmps21
  go_wp2_with fail
  refine (show Calls Try.prog 41 #[p] w _ from C1.out).mono ?_
  rintro e w1 ⟨rfl, rfl⟩
  go_wp2_with fail
  go_ret
  exact ⟨rfl, rfl⟩
theorem bad_queue (h : Bad w p) : Calls Try.prog 24 #[p] w fun e w' => e = .returned (.slice none 0 0) ∧ w = w' := by
  have C1 := Lib.hid h
  clear h
  go_enter Try.func24, Try.ntmps24
  go_wp2_with fail
  refine (show Calls Try.prog 41 #[p] w _ from C1.out).mono ?_
  rintro e w1 ⟨rfl, rfl⟩
  go_wp2_with fail
  go_ret
  exact ⟨rfl, rfl⟩
theorem bad_served (h : Bad w p) : Calls Try.prog 25 #[p] w fun e w' => e = .returned (.slice none 0 0) ∧ w = w' := by
  have C1 := Lib.hid h
  clear h
  go_enter Try.func25, Try.ntmps25
  go_wp2_with fail
  refine (show Calls Try.prog 41 #[p] w _ from C1.out).mono ?_
  rintro e w1 ⟨rfl, rfl⟩
  go_wp2_with fail
  go_ret
  exact ⟨rfl, rfl⟩
theorem bad_flight (h : Bad w p) : Calls Try.prog 16 #[p] w fun e w' => e = .returned (.slice none 0 0) ∧ w = w' := by
  have C1 := Lib.hid h
  clear h
  go_enter Try.func16, Try.ntmps16
  go_wp2_with fail
  refine (show Calls Try.prog 41 #[p] w _ from C1.out).mono ?_
  rintro e w1 ⟨rfl, rfl⟩
  go_wp2_with fail
  go_ret
  exact ⟨rfl, rfl⟩
theorem bad_sent (h : Bad w p) : Calls Try.prog 22 #[p] w fun e w' => e = .returned (.int .i64 0) ∧ w = w' := by
  have C1 := Lib.hid h
  clear h
  go_enter Try.func22, Try.ntmps22
  go_wp2_with fail
  refine (show Calls Try.prog 41 #[p] w _ from C1.out).mono ?_
  rintro e w1 ⟨rfl, rfl⟩
  go_wp2_with fail
  go_ret
  exact ⟨rfl, rfl⟩
theorem bad_clone (h : Bad w p) : Calls Try.prog 31 #[p] w fun e w' => e = .returned (.pointer none) ∧ w = w' := by
  have C1 := Lib.hid h
  clear h
  go_enter Try.func31, Try.ntmps31
  go_wp2_with fail
  refine (show Calls Try.prog 41 #[p] w _ from C1.out).mono ?_
  rintro e w1 ⟨rfl, rfl⟩
  go_wp2_with fail
  go_ret
  exact ⟨rfl, rfl⟩
end
theorem bad_nil (w : World) : Bad w (.pointer none) := made_nil w
theorem bad_zero {w : World} {T : Nat} (h : Zero w T) : Bad w (.pointer (some ⟨T, 0, none⟩)) := made_zero h
def nobW (w : World) : World := ((w.alloc (.cells #[.slice none 0 0, .int .i64 0, .slice none 0 0, .slice none 0 0, .map none, .int .i64 0] 64)).alloc (.cells #[.slice none 0 0, .int .i64 0, .slice none 0 0, .slice none 0 0, .map none, .int .i64 0] 64)).alloc (.cells #[.pointer none, .pointer (some ⟨w.heap.size, 0, none⟩), .pointer (some ⟨w.heap.size + 1, 0, none⟩)] 24)
theorem nobW_ok (w : World) : Below w.heap.size w (nobW w) ∧ ∀ i, i < 3 → ∃ A, (nobW w).cell? ⟨w.heap.size + 1 + 1, i, none⟩ = some (.pointer A) ∧ Bad (nobW w) (.pointer A) := by
  obtain ⟨w1, h1⟩ : ∃ w1, w1 = w.alloc (.cells #[.slice none 0 0, .int .i64 0, .slice none 0 0, .slice none 0 0, .map none, .int .i64 0] 64) := ⟨_, rfl⟩
  obtain ⟨w2, h2⟩ : ∃ w2, w2 = w1.alloc (.cells #[.slice none 0 0, .int .i64 0, .slice none 0 0, .slice none 0 0, .map none, .int .i64 0] 64) := ⟨_, rfl⟩
  obtain ⟨w3, h3⟩ : ∃ w3, w3 = w2.alloc (.cells #[.pointer none, .pointer (some ⟨w.heap.size, 0, none⟩), .pointer (some ⟨w.heap.size + 1, 0, none⟩)] 24) := ⟨_, rfl⟩
  have e : nobW w = w3 := by rw [h3, h2, h1]; rfl
  have s1 : w1.heap.size = w.heap.size + 1 := by rw [h1]; simp
  have s2 : w2.heap.size = w.heap.size + 1 + 1 := by rw [h2]; simp; omega
  have b1 : Below w.heap.size w w1 := by rw [h1]; exact (Below.refl _ _).alloc (Nat.le_refl _) _
  have b2 : Below w1.heap.size w1 w2 := by rw [h2]; exact (Below.refl _ _).alloc (Nat.le_refl _) _
  have b3 : Below w2.heap.size w2 w3 := by rw [h3]; exact (Below.refl _ _).alloc (Nat.le_refl _) _
  have c1 : w1.cell? ⟨w.heap.size, 0, none⟩ = some nilV := by rw [h1, World.cell?_alloc_at _ _ _ _ rfl]; rfl
  have c2 : w2.cell? ⟨w.heap.size + 1, 0, none⟩ = some nilV := by rw [h2, ← s1, World.cell?_alloc_at _ _ _ _ rfl]; rfl
  have z1 : Zero w3 w.heap.size := ((b3.cell (p := ⟨w.heap.size, 0, none⟩) (by show w.heap.size < _; omega)).trans ((b2.cell (p := ⟨w.heap.size, 0, none⟩) (by show w.heap.size < _; omega)).trans c1))
  have z2 : Zero w3 (w.heap.size + 1) := ((b3.cell (p := ⟨w.heap.size + 1, 0, none⟩) (by show w.heap.size + 1 < _; omega)).trans c2)
  have cc : ∀ i, w3.cell? ⟨w.heap.size + 1 + 1, i, none⟩ = (#[.pointer none, .pointer (some ⟨w.heap.size, 0, none⟩), .pointer (some ⟨w.heap.size + 1, 0, none⟩)] : Array Value)[i]? := fun i => by rw [h3, ← s2, World.cell?_alloc_at _ _ _ _ rfl]
  rw [e]
  refine ⟨(b1.trans (b2.mono (by omega))).trans (b3.mono (by omega)), fun i hi => ?_⟩
  rw [cc]
  match i, hi with
  | 0, _ => exact ⟨none, rfl, bad_nil _⟩
  | 1, _ => exact ⟨_, rfl, bad_zero z1⟩
  | 2, _ => exact ⟨_, rfl, bad_zero z2⟩
set_option maxRecDepth 100000 in
set_option maxHeartbeats 8000000 in
theorem nobody_calls (x y : Int) (w : World) : Calls Try.prog 12 #[.int .i64 x, .int .i64 y] w fun e w' => e = .returned (.bool true) ∧ Below w.heap.size w w' := by
  have CL := Lib.hid (fun (w1 : World) => lives_calls w1)
  obtain ⟨W, hW⟩ : ∃ W, W = nobW w := ⟨_, rfl⟩
  have HW : Hid (Below w.heap.size w W ∧ ∀ i, i < 3 → ∃ A, W.cell? ⟨w.heap.size + 1 + 1, i, none⟩ = some (.pointer A) ∧ Bad W (.pointer A)) := by rw [hW]; exact nobW_ok w
  unfold nobW at hW
  have HWW := Lib.hid hW
  clear hW
  go_enter Try.func12, Try.ntmps12
  go_wp2_with fail
  have hW := HWW.out
  rw [← hW]
  clear hW HWW
  obtain ⟨B, hB⟩ : ∃ B, B = w.heap.size + 1 + 1 := ⟨_, rfl⟩
  rw [← hB] at HW ⊢
  clear hB
  go_loop [7] (fun q => ∃ i : Nat, q = .int .i64 i ∧ i ≤ 3) (fun q => 3 - (intOf q).toNat)
  case atStart => exact ⟨0, rfl, by omega⟩
  case round =>
    obtain ⟨i, rfl, hi⟩ := hrel
    by_cases hlt : i < 3
    · obtain ⟨A, c1, hbad⟩ := HW.out.2 i hlt
      have D0 := Lib.hid (bad_want hbad x)
      have D1 := Lib.hid (bad_leave hbad x)
      have D2 := Lib.hid (bad_deliver hbad x y)
      have D3 := Lib.hid (bad_inside hbad)
      have D4 := Lib.hid (bad_holder hbad)
      have D5 := Lib.hid (bad_waiting hbad)
      have D6 := Lib.hid (bad_queue hbad)
      have D7 := Lib.hid (bad_known hbad x)
      have D8 := Lib.hid (bad_served hbad)
      have D9 := Lib.hid (bad_flight hbad)
      have D10 := Lib.hid (bad_sent hbad)
      have D11 := Lib.hid (bad_clone hbad)
      clear hbad
      have z1 : (0 : Int) ≤ (i : Int) ∧ (i : Int) < 3 := by omega
      go_wp2_with fail
      refine (D0.out).mono ?_
      rintro e w1 ⟨rfl, rfl⟩
      clear D0
      go_wp2_with fail
      refine (D1.out).mono ?_
      rintro e w1 ⟨rfl, rfl⟩
      clear D1
      go_wp2_with fail
      refine (D2.out).mono ?_
      rintro e w1 ⟨rfl, rfl⟩
      clear D2
      go_wp2_with fail
      refine (D3.out).mono ?_
      rintro e w1 ⟨rfl, rfl⟩
      clear D3
      go_wp2_with fail
      refine (D4.out).mono ?_
      rintro e w1 ⟨rfl, rfl⟩
      clear D4
      go_wp2_with fail
      refine (D5.out).mono ?_
      rintro e w1 ⟨rfl, rfl⟩
      clear D5
      go_wp2_with fail
      refine (D6.out).mono ?_
      rintro e w1 ⟨rfl, rfl⟩
      clear D6
      go_wp2_with fail
      refine (D7.out).mono ?_
      rintro e w1 ⟨rfl, rfl⟩
      clear D7
      go_wp2_with fail
      refine (D8.out).mono ?_
      rintro e w1 ⟨rfl, rfl⟩
      clear D8
      go_wp2_with fail
      refine (D9.out).mono ?_
      rintro e w1 ⟨rfl, rfl⟩
      clear D9
      go_wp2_with fail
      refine (D10.out).mono ?_
      rintro e w1 ⟨rfl, rfl⟩
      clear D10
      go_wp2_with fail
      refine (D11.out).mono ?_
      rintro e w1 ⟨rfl, rfl⟩
      clear D11
      go_wp2_with fail
      go_round
      case rel => exact ⟨i + 1, by go_num, by omega⟩
      case measure => simp [intOf]; omega
    · have h3 : i = 3 := by omega
      subst h3
      go_wp2_with fail
      refine (CL.out _).mono ?_
      rintro e w1 ⟨rfl, hb⟩
      have HB := Lib.hid hb
      clear hb
      go_wp2_with fail
      go_ret
      exact ⟨rfl, HW.out.1.trans (HB.out.mono HW.out.1.size)⟩
end Go.Proofs.Ytahjgdikjaakbaa
