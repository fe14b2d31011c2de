/- What is proved: slices.Contains. No condition beyond those in each statement. -/
import Derived.Test.YtahjgdikjaakbaaL
namespace Go.Proofs.Ytahjgdikjaakbaa
open Go.RowKit

theorem index_nil (w : World) (x : Int) : Calls Try.prog 60 #[nilV, .int .i64 x] w fun e w' => e = .returned (.int .i64 (-1)) ∧ w = w' := by
  unfold nilV
  go_enter Try.func60, Try.ntmps60
  go_wp2_with fail
  go_loop [8] (fun v => v = .int .i64 0) (fun _ => 0)
  case atStart => rfl
  case round =>
    subst hrel
    go_wp2_with fail
    go_ret
    exact ⟨rfl, rfl⟩
def IdxRel (q : List Int) (x : Int) (v : Value) : Prop := ∃ k : Nat, v = .int .i64 k ∧ k ≤ q.length ∧ ∀ j, j < k → q[j]? ≠ some x
theorem index_row {w : World} {g off c : Nat} (q : List Int) (x : Int) (hl : q.length ≤ 100000) (hq : ∀ k, k < q.length → w.cell? ⟨g, off + k, none⟩ = some (.int .i64 (q.getD k 0))) :
    Calls Try.prog 60 #[.slice (some ⟨g, off, none⟩) q.length c, .int .i64 x] w fun e w' => (∃ r : Int, e = .returned (.int .i64 r) ∧ (0 ≤ r ↔ x ∈ q)) ∧ w = w' := by
  have HQ := Lib.hid hq
  clear hq
  go_enter Try.func60, Try.ntmps60
  go_wp2_with fail
  go_loop [8] (fun v => IdxRel q x v) (fun v => q.length - (intOf v).toNat)
  case atStart => exact ⟨0, rfl, Nat.zero_le _, fun j hj => absurd hj (Nat.not_lt_zero j)⟩
  case round =>
    obtain ⟨k, rfl, hk, hno⟩ := hrel
    have HNO := Lib.hid hno
    clear hno
    by_cases hlt : k < q.length
    · have c1 := HQ.out k hlt
      have hget : q[k]? = some (q.getD k 0) := by simp [List.getD_eq_getElem?_getD, hlt]
      have HG := Lib.hid hget
      clear hget
      obtain ⟨y, hy⟩ : ∃ y, y = q.getD k 0 := ⟨_, rfl⟩
      rw [← hy] at c1 HG
      clear hy
      by_cases hxy : x = y
      · subst hxy
        go_wp2_with fail
        go_ret
        refine ⟨⟨k, rfl, ?_⟩, rfl⟩
        have hm : x ∈ q := List.mem_of_getElem? HG.out
        exact ⟨fun _ => hm, fun _ => by omega⟩
      · go_wp2_with fail
        go_round
        case rel => exact ⟨k + 1, by go_num, by omega, fun j hj => by
          by_cases e : j = k
          · subst e; rw [HG.out]; intro e2; exact hxy (Option.some.inj e2).symm
          · exact HNO.out j (by omega)⟩
        case measure => simp [intOf]; omega
    · have hkn : k = q.length := by omega
      subst hkn
      go_wp2_with fail
      go_ret
      refine ⟨⟨-1, rfl, ?_⟩, rfl⟩
      have hm : x ∉ q := fun h => by
        obtain ⟨j, hj, e⟩ := List.mem_iff_getElem.1 h
        exact HNO.out j hj (by rw [List.getElem?_eq_getElem hj, e])
      exact ⟨fun h => absurd h (by decide), fun h => absurd h hm⟩
theorem contains_calls {w : World} {v : Value} {q : List Int} (h : Sl1 w 3 v (intsV q)) (hl : q.length ≤ 100000) (x : Int) : Calls Try.prog 55 #[v, .int .i64 x] w fun e w' => e = .returned (.bool (decide (x ∈ q))) ∧ w = w' := by
  have C : Hid (Calls Try.prog 60 #[v, .int .i64 x] w fun e w' => (∃ r : Int, e = .returned (.int .i64 r) ∧ (0 ≤ r ↔ x ∈ q)) ∧ w = w') := by
    rcases h with ⟨rfl, e⟩ | ⟨g, off, c, rfl, hr⟩
    · have hq : q = [] := by simpa [intsV] using e
      subst hq
      exact (index_nil w x).mono fun _ _ ⟨h1, h2⟩ => ⟨⟨-1, h1, by simp⟩, h2⟩
    · rw [intsV_len]
      exact index_row q x hl fun k hk => by rw [hr.at k (by rw [intsV_len]; exact hk), intsV_at]
  clear h hl
  go_enter Try.func55, Try.ntmps55
  go_wp2_with fail
  refine C.out.mono ?_
  rintro e w1 ⟨⟨r, rfl, hr⟩, rfl⟩
  have HD : Hid (decide (r ≥ 0) = decide (x ∈ q)) := by show _ = _; exact decide_eq_decide.2 hr
  clear hr C
  go_wp2_with fail
  go_ret
  exact ⟨ret_bool HD.out, rfl⟩
end Go.Proofs.Ytahjgdikjaakbaa
