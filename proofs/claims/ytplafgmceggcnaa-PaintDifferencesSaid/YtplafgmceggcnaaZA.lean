/- What is proved: cut. No condition beyond those in each statement. -/
import Derived.Test.YtplafgmceggcnaaY
namespace Go.Proofs.Ytplafgmceggcnaa
open Go.RowKit

theorem rd_of_cells {w : World} {x : Addr} {len : Nat} {zs : List Int} (hc : ∀ i, i < zs.length → w.cell? (x.add i) = some (.int .i64 (zs.getD i 0))) : Rd w (some x) (zs.take len) := by
  intro hne
  have hpos : 0 < zs.length := by
    rcases Nat.eq_zero_or_pos zs.length with h | h
    · rw [List.eq_nil_of_length_eq_zero h] at hne; simp at hne
    · exact h
  obtain ⟨b, off, spot⟩ := x
  have h0 := hc 0 hpos
  have hspot : spot = none := by simpa [Addr.add] using World.cell?_spot h0
  subst hspot
  refine ⟨b, off, rfl, ?_, fun i hi => ?_⟩
  · rw [addr_add] at h0
    exact World.block_lt_of_cell? _ _ h0
  · have hi' : i < zs.length := by rw [List.length_take] at hi; omega
    have := hc i hi'
    rw [addr_add, getD_lt _ () hi'] at this
    rw [this, List.getElem_take]

theorem cp_one {w : World} {L : Option Addr} {nl cl : Nat} {xs : List Int} (hn : nl = xs.length) (hx : Rd w L xs) (hL : L = none → cl = 0 ∧ xs = []) (hl : xs.length ≤ 1000) :
    ∃ A n c w1, (Builtin.append_ #[22, 22] 22 #[.slice (some ⟨w.heap.size, 0, none⟩) 0 0, .slice L nl cl]).run Try.prog (w.alloc (.cells #[] 3)) = .ok (.slice A n c) w1 ∧ n = xs.length ∧ n ≤ c ∧ c ≤ 9223372036854775807 ∧ Rd w1 A xs ∧ Below w.heap.size w w1 := by
  obtain ⟨i0, hi, hz0, hz1, hz2⟩ := info_parts info3'
  have h0 := ow_new w w.heap.size (Nat.le_refl _)
  have hb0 : Below w.heap.size w (w.alloc (.cells #[] 3)) := (Below.refl _ _).alloc (Nat.le_refl _) _
  have key : ∃ v1 w1, (Builtin.append_ #[22, 22] 22 #[.slice (some ⟨w.heap.size, 0, none⟩) 0 0, .slice L nl cl]).run Try.prog (w.alloc (.cells #[] 3)) = .ok v1 w1 ∧ Ow w1 w.heap.size v1 xs ∧ Below w.heap.size w w1 := by
    cases L with
    | none =>
      obtain ⟨rfl, rfl⟩ := hL rfl
      subst hn
      exact ⟨_, _, run_append_owned_none _ w.heap.size 22 22 3 i0 1 Try.underlying22 hi _ 0 [] h0, h0, hb0⟩
    | some a =>
      obtain ⟨v', w', hrun, r1, r2, r3⟩ := run_append_own (P := Try.prog) (w.alloc (.cells #[] 3)) w.heap.size 22 22 3 i0 (.int .i64 0) 1 8 Try.underlying22 hi hz0 hz1 hz2 rfl (by decide) _ 0 [] h0 a nl cl (xs.map (Value.int .i64)) (by simp [hn]) (by
        intro j u hj
        rw [List.getElem?_map] at hj
        obtain ⟨y, hy1, hy2⟩ := Option.map_eq_some_iff.1 hj
        obtain ⟨hj1, hj2⟩ := List.getElem?_eq_some_iff.1 hy1
        obtain ⟨b', o', e, hb', hc'⟩ := hx (fun e => by subst e; simp at hj1)
        cases e
        rw [addr_add, hb0.cell (p := ⟨b', o' + j, none⟩) hb', hc' j hj1, hj2, hy2]) (by simp [Value.oneCell']) (by simp [maxLen]; omega) (by omega) (by simp)
      refine ⟨v', w', hrun, ?_, hb0.grown r2 (by simp) (fun k hk => (World.ownsRow.lt h0 k hk).1)⟩
      unfold Ow
      rw [← hn]
      simpa using r1
  obtain ⟨v1, w1, hr1, ho1, hb1⟩ := key
  obtain ⟨A, n, c, rfl, g1, g2, g3, g4⟩ := ho1.sl.parts
  exact ⟨A, n, c, w1, hr1, g1, g2, g3, g4, hb1⟩

set_option maxHeartbeats 1000000 in
theorem cut_calls (A : Option Addr) (n c : Nat) (xs : List Int) (w : World) (hn : n = xs.length) (hA : Rd w A xs) (hl : n ≤ c) (hc : c ≤ 9223372036854775807) (hnone : A = none → c = 0) :
    Calls Try.prog 16 #[.slice A n c] w fun e w' => ∃ A' n' c', e = .returned (.slice A' n' c') ∧ n' = (xs.take 29).length ∧ n' ≤ c' ∧ c' ≤ 9223372036854775807 ∧ Rd w' A' (xs.take 29) ∧ Below w.heap.size w w' := by
  have hR : Rd w A (xs.take 29) := fun hne => by
    obtain ⟨b, o, e, hb, hcl⟩ := hA (fun h => by subst h; simp at hne)
    exact ⟨b, o, e, hb, fun i hi => by
      have hi' : i < xs.length := by rw [List.length_take] at hi; omega
      rw [hcl i hi', List.getElem_take]⟩
  cases A with
  | none =>
    have h0 := hnone rfl
    subst h0
    have hx : xs = [] := List.eq_nil_of_length_eq_zero (by omega)
    subst hx
    have hn0 : n = 0 := hn
    subst hn0
    obtain ⟨A', n', c', w1, hr, h1, h2, h3, h4, h5⟩ := cp_one (w := w) (L := none) (nl := 0) (cl := 0) (xs := []) rfl hR (fun _ => ⟨rfl, rfl⟩) (by simp)
    have HR := Lib.hid hr
    have HP : Hid (n' = ([].take 29 : List Int).length ∧ n' ≤ c' ∧ c' ≤ 9223372036854775807 ∧ Rd w1 A' ([].take 29) ∧ Below w.heap.size w w1) := ⟨h1, h2, h3, h4, h5⟩
    clear hr h1 h2 h3 h4 h5 hn hA hR
    go_enter Try.func16, Try.ntmps16
    go_wp2_with (at_builtin; refine wpList_app rfl (.tmp 3) (.tmp 8) 22 22 rfl rfl _ _ rfl rfl HR.out ?_)
    go_ret
    exact ⟨_, _, _, rfl, HP.out⟩
  | some a =>
    by_cases h29 : n ≤ 29
    · obtain ⟨A', n', c', w1, hr, h1, h2, h3, h4, h5⟩ := cp_one (w := w) (L := some a) (nl := n) (cl := c) (xs := xs.take 29) (by rw [List.length_take]; omega) hR (fun h => by cases h) (by rw [List.length_take]; omega)
      have HR := Lib.hid hr
      have HP : Hid (n' = (xs.take 29).length ∧ n' ≤ c' ∧ c' ≤ 9223372036854775807 ∧ Rd w1 A' (xs.take 29) ∧ Below w.heap.size w w1) := ⟨h1, h2, h3, h4, h5⟩
      clear hr h1 h2 h3 h4 h5 hn hA hR
      go_enter Try.func16, Try.ntmps16
      go_wp2_with (at_builtin; refine wpList_app rfl (.tmp 3) (.tmp 8) 22 22 rfl rfl _ _ rfl rfl HR.out ?_)
      all_goals
        go_ret
        first | exact ⟨_, _, _, rfl, HP.out⟩ | exact ⟨_, _, _, rfl, by rw [HP.out.1, List.length_take], HP.out.2⟩
    · obtain ⟨A', n', c', w1, hr, h1, h2, h3, h4, h5⟩ := cp_one (w := w) (L := some a) (nl := 29) (cl := c) (xs := xs.take 29) (by rw [List.length_take]; omega) hR (fun h => by cases h) (by rw [List.length_take]; omega)
      have HR := Lib.hid hr
      have HP : Hid (n' = (xs.take 29).length ∧ n' ≤ c' ∧ c' ≤ 9223372036854775807 ∧ Rd w1 A' (xs.take 29) ∧ Below w.heap.size w w1) := ⟨h1, h2, h3, h4, h5⟩
      clear hr h1 h2 h3 h4 h5 hn hA hR
      go_enter Try.func16, Try.ntmps16
      go_wp2_with (at_builtin; refine wpList_app rfl (.tmp 3) (.tmp 8) 22 22 rfl rfl _ _ rfl rfl HR.out ?_)
      all_goals
        go_ret
        first | exact ⟨_, _, _, rfl, HP.out⟩ | exact ⟨_, _, _, rfl, by rw [HP.out.1, List.length_take], HP.out.2⟩
end Go.Proofs.Ytplafgmceggcnaa
