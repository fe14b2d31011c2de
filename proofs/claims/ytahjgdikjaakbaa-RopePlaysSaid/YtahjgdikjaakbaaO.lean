/- What is proved: Deliver. No condition beyond those in each statement. -/
import Derived.Test.YtahjgdikjaakbaaN
namespace Go.Proofs.Ytahjgdikjaakbaa
open Go.RowKit

theorem there_in {w : World} {T i : Nat} {s : LS} (h : Low w T s) (hi : i < s.n) : Calls Try.prog 58 #[.pointer (some ⟨T, 0, none⟩), .int .i64 i] w fun e w' => e = .returned (.bool true) ∧ w = w' := by
  have := there_calls h i
  rw [thereB_nat hi] at this
  exact this
theorem there_no {w : World} {T : Nat} {i : Int} {s : LS} (h : Low w T s) (hi : thereB s.n i = false) : Calls Try.prog 58 #[.pointer (some ⟨T, 0, none⟩), .int .i64 i] w fun e w' => e = .returned (.bool false) ∧ w = w' := by
  have := there_calls h i
  rw [hi] at this
  exact this
theorem Mv.alloc {T : Nat} {s s1 : LS} {w w1 : World} (h : Mv T s w s1 w1) (o : Obj) : Mv T s w s1 (w1.alloc o) := h.below ((Below.refl _ _).alloc (Nat.le_refl _) o) (Nat.le_refl _)
theorem deliver_arg {w : World} {T : Nat} {a b : Int} {s : LS} (h : Low w T s) (hab : thereB s.n a = false ∨ thereB s.n b = false ∨ a = b) : Calls Try.prog 37 #[.pointer (some ⟨T, 0, none⟩), .int .i64 a, .int .i64 b] w fun e w' => e = .returned (.int .i64 1) ∧ Mv T s w s w' := by
  have C1 := Lib.hid (made_calls h)
  obtain ⟨W, hW⟩ : ∃ W, W = w.alloc (.cells #[.int .i64 a, .int .i64 b] 68) := ⟨_, rfl⟩
  have m : Mv T s w s W := by rw [hW]; exact (Mv.refl h).alloc _
  have HM := Lib.hid m
  have HW := Lib.hid hW
  have CA := Lib.hid (there_calls m.low a)
  have CB := Lib.hid (there_calls m.low b)
  clear h hW m
  by_cases ha : thereB s.n a = false
  · rw [ha] at CA
    clear hab ha
    go_enter Try.func37, Try.ntmps37
    go_wp2_with fail
    refine C1.out.mono ?_
    rintro e w1 ⟨rfl, rfl⟩
    go_wp2_with fail
    have hW := HW.out
    rw [← hW]
    clear hW
    refine CA.out.mono ?_
    rintro e w1 ⟨rfl, rfl⟩
    go_wp2_with fail
    go_ret
    exact ⟨rfl, HM.out⟩
  · have ha' : thereB s.n a = true := by simpa using ha
    rw [ha'] at CA
    by_cases hb : thereB s.n b = false
    · rw [hb] at CB
      clear hab ha hb ha'
      go_enter Try.func37, Try.ntmps37
      go_wp2_with fail
      refine C1.out.mono ?_
      rintro e w1 ⟨rfl, rfl⟩
      go_wp2_with fail
      have hW := HW.out
      rw [← hW]
      clear hW
      refine CA.out.mono ?_
      rintro e w1 ⟨rfl, rfl⟩
      go_wp2_with fail
      refine CB.out.mono ?_
      rintro e w1 ⟨rfl, rfl⟩
      go_wp2_with fail
      go_ret
      exact ⟨rfl, HM.out⟩
    · have hb' : thereB s.n b = true := by simpa using hb
      have e : a = b := by
        rcases hab with h | h | h
        · exact absurd h ha
        · exact absurd h hb
        · exact h
      subst e
      rw [hb'] at CB
      clear hab ha hb ha' hb'
      go_enter Try.func37, Try.ntmps37
      go_wp2_with fail
      refine C1.out.mono ?_
      rintro e w1 ⟨rfl, rfl⟩
      go_wp2_with fail
      have hW := HW.out
      rw [← hW]
      clear hW
      refine CA.out.mono ?_
      rintro e w1 ⟨rfl, rfl⟩
      go_wp2_with fail
      refine CA.out.mono ?_
      rintro e w1 ⟨rfl, rfl⟩
      go_wp2_with fail
      go_ret
      exact ⟨rfl, HM.out⟩
theorem lookup_low {w : World} {T i j : Nat} {s : LS} (h : Low w T s) (hi : i < s.n) (hj : j < s.n) : (Instr.lookup 62 (.map (some s.M)) (.agg #[.int .i64 i, .int .i64 j]) false).run Try.prog w = .ok (s.F i j) w := by
  have hn := h.hn
  exact fl_lookup (k := 68) (e := 67) (t := 62) law68 Try.underlying62 (fun a b ha hb => keysOk6 a b (by omega) (by omega)) (zero67 _) h.hM hi hj
theorem deliver_none {w : World} {T i j : Nat} {s : LS} (h : Low w T s) (hi : i < s.n) (hj : j < s.n) (hij : i ≠ j) (h0 : s.ms i j = []) : Calls Try.prog 37 #[.pointer (some ⟨T, 0, none⟩), .int .i64 i, .int .i64 j] w fun e w' => e = .returned (.int .i64 5) ∧ Mv T s w s w' := by
  have C1 := Lib.hid (made_calls h)
  obtain ⟨W, hW⟩ : ∃ W, W = w.alloc (.cells #[.int .i64 i, .int .i64 j] 68) := ⟨_, rfl⟩
  have m : Mv T s w s W := by rw [hW]; exact (Mv.refl h).alloc _
  obtain ⟨N, hN⟩ : ∃ N, N = w.heap.size := ⟨_, rfl⟩
  have y0 : W.cell? ⟨N, 0, none⟩ = some (.int .i64 i) := by rw [hW, hN]; exact World.cell?_alloc_at _ _ _ _ rfl
  have y1 : W.cell? ⟨N, 1, none⟩ = some (.int .i64 j) := by rw [hW, hN]; exact World.cell?_alloc_at _ _ _ _ rfl
  have c4 : W.cell? ⟨T, 4, none⟩ = some (.map (some s.M)) := m.low.cells.2.2.2.2.1
  have hne : (i : Int) ≠ j := by omega
  have hnil : s.F i j = .slice none 0 0 ∨ ∃ g off cap, s.F i j = .slice (some ⟨g, off, none⟩) 0 cap := by
    have := m.low.hF i j hi hj
    rw [h0] at this
    rcases this with ⟨e, _⟩ | ⟨g, off, cap, e, _⟩
    · exact .inl e
    · exact .inr ⟨g, off, cap, e⟩
  obtain ⟨V, hV⟩ : ∃ V, V = s.F i j := ⟨_, rfl⟩
  have lk : ∀ q, (Instr.lookup 62 (.map (some s.M)) (.agg #[.int .i64 i, .int .i64 j]) false).run Try.prog (W.drewN q) = .ok V (W.drewN q) := by
    intro q
    rw [hV]
    exact lookup_low (m.low.drewN q) hi hj
  rw [← hV] at hnil
  have HM := Lib.hid m
  have HW := Lib.hid hW
  have HNN := Lib.hid hN
  have CA := Lib.hid (there_in m.low hi)
  have CB := Lib.hid (there_in m.low hj)
  clear h hW m h0 hV hN
  rcases hnil with rfl | ⟨g, off, cap, rfl⟩
  all_goals
    go_enter Try.func37, Try.ntmps37
    go_wp2_with fail
    refine C1.out.mono ?_
    rintro e w1 ⟨rfl, rfl⟩
    go_wp2_with fail
    have hW := HW.out
    have hN := HNN.out
    rw [← hW, ← hN]
    clear hW hN
    refine CA.out.mono ?_
    rintro e w1 ⟨rfl, rfl⟩
    go_wp2_with fail
    refine CB.out.mono ?_
    rintro e w1 ⟨rfl, rfl⟩
    go_wp2_with fail
    go_quiet (fail)
    go_wp2_with fail
    go_ret
    exact ⟨rfl, HM.out.drewN _⟩
end Go.Proofs.Ytahjgdikjaakbaa
