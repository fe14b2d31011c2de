/- What is proved: rows of bools; Index, Contains, Clone of them. No condition beyond those in each statement. -/
import Derived.Test.YtlidnhmagleehaaN
namespace Go.Proofs.Ytlidnhmagleehaa
open Go.RowKit

def ArrB (w : World) (base g c : Nat) (xs : List Bool) : Prop := w.ownsRow base 4 1 (.slice (some ⟨g, 0, none⟩) xs.length c) xs.length (xs.map Value.bool)
theorem ArrB.at {w : World} {base g c : Nat} {xs : List Bool} (h : ArrB w base g c xs) (i : Nat) (hi : i < xs.length) : w.cell? ⟨g, i, none⟩ = some (.bool xs[i]) := by
  rw [World.ownsRow.cellAt h i (by omega)]; simp [hi]
theorem ArrB.free {w : World} {base g c : Nat} {xs : List Bool} (h : ArrB w base g c xs) (i : Nat) : w.frozen? ⟨g, i, none⟩ = false := World.ownsRow.frozenAt h i
theorem ArrB.lt {w : World} {base g c : Nat} {xs : List Bool} (h : ArrB w base g c xs) : base ≤ g ∧ g < w.heap.size := World.ownsRow.lt h g rfl
theorem ArrB.set {w : World} {base g c : Nat} {xs : List Bool} (h : ArrB w base g c xs) (i : Nat) (y : Bool) :
    ArrB (w.setCell ⟨g, i, none⟩ (.bool y)) base g c (xs.set i y) ∧ Bo base g w (w.setCell ⟨g, i, none⟩ (.bool y)) := by
  have := World.ownsRow.stored h i (.bool y)
  refine ⟨?_, (Below.refl _ _).setCell h.lt.1 _, fun b hb => heap_setCell_other w ⟨g, i, none⟩ b _ hb⟩
  unfold ArrB
  rw [List.length_set, List.map_set]
  exact this.1
theorem ArrB.same {w w' : World} {base g c : Nat} {xs : List Bool} (h : ArrB w base g c xs) (e : w'.heap[g]? = w.heap[g]?) : ArrB w' base g c xs := by
  refine ⟨h.1, ?_⟩
  rcases h.2 with h | ⟨g', cap, cur, e', hb, hg, h⟩
  · exact .inl h
  · cases e'
    exact .inr ⟨g, c, cur, rfl, hb, by rw [e]; exact hg, h⟩
theorem ArrB.below {w w' : World} {base g c : Nat} {xs : List Bool} (h : ArrB w base g c xs) (hb : Below w.heap.size w w') : ArrB w' base g c xs := h.same (hb.block g h.lt.2)
theorem ArrB.weaken {w : World} {base base' g c : Nat} {xs : List Bool} (h : ArrB w base g c xs) (hb : base' ≤ base) : ArrB w base' g c xs := ⟨h.1, by
  rcases h.2 with h | ⟨g', cap, cur, e', hb', h⟩
  · exact .inl h
  · exact .inr ⟨g', cap, cur, e', by omega, h⟩⟩
theorem ArrB.bd {w : World} {base g c : Nat} {xs : List Bool} (h : ArrB w base g c xs) : xs.length ≤ c := by
  rcases h.2 with ⟨h', _⟩ | ⟨g', cap', cur, h', _, _, hnc, hcm, _⟩
  · cases h'
  · cases h'; exact hnc
theorem info4 : (Try.prog.info? 4).map (fun i => (i.zero, i.size, i.bytes)) = some (some (.bool false), 1, 1) := by kernel_rfl
theorem arrB_made (n : Nat) (hn : n ≤ 1000) (w : World) : ∃ w', (Instr.makeSlice 74 (.int .i64 n) (.int .i64 n)).run Try.prog w = .ok (.slice (some ⟨w.heap.size, 0, none⟩) n n) w' ∧ ArrB w' w.heap.size w.heap.size n (List.replicate n false) ∧ Below w.heap.size w w' := by
  obtain ⟨i0, hi, hz0, hz1, hz2⟩ := info_parts info4
  obtain ⟨w0, hmk, hown, hgrow⟩ := run_make_full (P := Try.prog) w w.heap.size 74 4 i0 (.bool false) 1 Try.underlying74 hi hz0 hz1 .i64 .i64 n (by rw [hz2]; omega) (by simp [maxLen]; omega) (Nat.le_refl _)
  refine ⟨w0, hmk, ?_, (Below.refl _ _).grown hgrow (Nat.le_refl _) (fun k e => by cases e)⟩
  unfold ArrB
  have : (madeCells (Value.bool false).cells (n * 1)).toList = (List.replicate n false).map Value.bool := by
    show (madeCells #[.bool false] (n * 1)).toList = _
    rw [toList_madeCells_one]; simp
  rw [this] at hown
  rw [List.length_replicate]
  exact hown

set_option maxHeartbeats 1000000 in
theorem indexB_calls (base g c : Nat) (xs : List Bool) (v : Bool) (n : Nat) (w : World) (hn : n = xs.length) (h : ArrB w base g c xs) (hx : xs.length ≤ 1000) :
    Calls Try.prog 55 #[.slice (some ⟨g, 0, none⟩) n c, .bool v] w fun e w' =>
      ∃ i : Int, e = .returned (.int .i64 i) ∧ decide (i ≥ 0) = (xs.any fun u => v == u) ∧ w = w' := by
  have HX := Lib.hid h
  have HN := Lib.hid hn
  have hn63 : n ≤ 1000 := by omega
  clear h hn
  go_enter Try.func55, Try.ntmps55
  go_wp2
  go_loop [8] (fun q => ∃ k : Nat, q = .int .i64 k ∧ k ≤ n ∧ Hid (((xs.take k).any fun u => v == u) = false)) (fun q => n - (intOf q).toNat)
  case atStart => exact ⟨0, rfl, Nat.zero_le _, (by simp : ((xs.take 0).any fun u => v == u) = false)⟩
  case round =>
    obtain ⟨k, rfl, hk, HA⟩ := hrel
    by_cases hlt : k < n
    · have hkl : k < xs.length := by have := HN.out; omega
      have hcell := HX.out.at k hkl
      obtain ⟨y, hy⟩ : ∃ y, y = xs[k] := ⟨_, rfl⟩
      rw [← hy] at hcell
      cases hpk : (v == y)
      · have HQ : Hid ((v == xs[k]'hkl) = false) := by show _ = _; rw [← hy]; exact hpk
        clear hy
        go_wp2_with fail
        go_round
        case rel =>
          refine ⟨k + 1, by go_num, by omega, ?_⟩
          show _ = _
          rw [List.take_succ_eq_append_getElem hkl, List.any_append, HA.out]
          simp only [List.any_cons, List.any_nil, Bool.or_false, Bool.false_or]
          exact HQ.out
        case measure => simp [intOf]; omega
      · have HQ : Hid ((xs.any fun u => v == u) = true) := by
          show _ = _
          rw [List.any_eq_true]
          exact ⟨xs[k], List.getElem_mem _, by rw [← hy]; exact hpk⟩
        clear hy
        go_wp2_with fail
        go_ret
        exact ⟨k, rfl, by rw [HQ.out]; simp, rfl⟩
    · have hk' : k = xs.length := by have := HN.out; omega
      have HA2 : Hid ((xs.any fun u => v == u) = false) := by have := HA.out; rwa [hk', List.take_length] at this
      clear hk'
      go_wp2_with fail
      go_ret
      exact ⟨-1, rfl, by rw [HA2.out]; simp, rfl⟩
set_option maxHeartbeats 400000 in
theorem containsB_calls (base g c : Nat) (xs : List Bool) (v : Bool) (n : Nat) (w : World) (hn : n = xs.length) (h : ArrB w base g c xs) (hx : xs.length ≤ 1000) :
    Calls Try.prog 47 #[.slice (some ⟨g, 0, none⟩) n c, .bool v] w fun e w' => e = .returned (.bool (xs.any fun u => v == u)) ∧ w = w' := by
  have HC := Lib.hid (indexB_calls base g c xs v n w hn h hx)
  clear hn h
  go_enter Try.func47, Try.ntmps47
  go_wp2_with fail
  refine HC.out.mono ?_
  rintro e w1 ⟨i, rfl, hi, rfl⟩
  go_wp2_with fail
  go_ret
  exact ⟨ret_bool rfl, rfl⟩
set_option maxHeartbeats 2000000 in
theorem cloneB_calls (base g n c : Nat) (xs : List Bool) (w : World) (hn : n = xs.length) (hA : ArrB w base g c xs) (hx : xs.length ≤ 1000) :
    Calls Try.prog 48 #[.slice (some ⟨g, 0, none⟩) n c] w fun e w' => ∃ g' c', e = .returned (.slice (some ⟨g', 0, none⟩) n c') ∧ ArrB w' w.heap.size g' c' xs ∧ Below w.heap.size w w' := by
  have qT : ∀ (w : World) (a : Option Addr) (n c n' c' : Nat), (binOp .eql 74 (.slice a n c) (.slice none n' c')).run Try.prog w = .ok (.bool a.isNone) w := fun w a n c n' c' => Lib.run_eql_slice_nil w _ _ a n c n' c' Try.underlying74
  obtain ⟨i0, hi, hz0, hz1, hz2⟩ := info_parts info4
  have h0 : (w.alloc (.cells #[] 4)).ownsRow w.heap.size 4 1 (.slice (some ⟨w.heap.size, 0, none⟩) 0 0) 0 [] := World.ownsRow_made w #[] 0 (Nat.le_refl _) (by simp) rfl
  have hb0 : Below w.heap.size w (w.alloc (.cells #[] 4)) := (Below.refl _ _).alloc (Nat.le_refl _) _
  have hA0 := hA.below hb0
  obtain ⟨v', w', hrun, r1, r2, r3⟩ := run_append_own (P := Try.prog) (w.alloc (.cells #[] 4)) w.heap.size 74 74 4 i0 (.bool false) 1 1 Try.underlying74 hi hz0 hz1 hz2 rfl (by decide) _ 0 [] h0 ⟨g, 0, none⟩ n c (xs.map Value.bool) (by simp [hn]) (by
        intro j u hj
        rw [List.getElem?_map] at hj
        obtain ⟨y, hy1, hy2⟩ := Option.map_eq_some_iff.1 hj
        obtain ⟨hj1, hj2⟩ := List.getElem?_eq_some_iff.1 hy1
        rw [addr_add, Nat.zero_add, hA0.at j hj1, hj2, hy2]) (fun u hu => by obtain ⟨b, _, rfl⟩ := List.mem_map.1 hu; rfl) (by simp [maxLen]; omega) (by omega) (by simp)
  have hB : Below w.heap.size w w' := hb0.grown r2 (by simp) (fun k hk => (World.ownsRow.lt h0 k hk).1)
  have hO : w'.ownsRow w.heap.size 4 1 v' n (xs.map Value.bool) := by simpa using r1
  obtain ⟨g', c', rfl⟩ : ∃ g c', v' = .slice (some ⟨g, 0, none⟩) n c' := by
    rcases r1.2 with ⟨h', h''⟩ | ⟨g', cap, cur, e, _⟩
    · exact absurd (r3.1 h').1 (by simp)
    · exact ⟨g', cap, by rw [e]; simp⟩
  have HRUN := Lib.hid hrun
  have HO : Hid (ArrB w' w.heap.size g' c' xs) := by show ArrB _ _ _ _ _; unfold ArrB; rw [← hn]; exact hO
  have HB := Lib.hid hB
  clear hi hz0 hz1 hz2 h0 hb0 hrun r1 r2 r3 hB hO hn hA hA0
  go_enter Try.func48, Try.ntmps48
  go_wp2_with (at_builtin; refine wpList_app rfl (.tmp 5) (.tmp 6) 74 74 rfl rfl _ _ rfl rfl HRUN.out ?_)
  go_ret
  exact ⟨g', c', rfl, HO.out, HB.out⟩
end Go.Proofs.Ytlidnhmagleehaa
