/- What is proved: slices.Clone, those, Inside, Waiting, Known. No condition beyond those in each statement. -/
import Derived.Test.YtahjgdikjaakbaaP
namespace Go.Proofs.Ytahjgdikjaakbaa
open Go.RowKit

set_option maxHeartbeats 2000000 in
theorem cloneI_calls {w : World} {v : Value} {xs : List Int} (h : Sl1 w 3 v (intsV xs)) (hx : xs.length ≤ 1000) :
    Calls Try.prog 43 #[v] w fun e w' => ∃ v', e = .returned v' ∧ Ow w' w.heap.size v' xs ∧ Below w.heap.size w w' := by
  have qT : ∀ (w : World) (a : Option Addr) (n c n' c' : Nat), (binOp .eql 36 (.slice a n c) (.slice none n' c')).run Try.prog w = .ok (.bool a.isNone) w := fun w a n c n' c' => Lib.run_eql_slice_nil w _ _ a n c n' c' Try.underlying36
  rcases h with ⟨rfl, e⟩ | ⟨g, off, c, rfl, hr⟩
  · have hq : xs = [] := by simpa [intsV] using e
    subst hq
    clear e hx
    unfold nilV
    go_enter Try.func43, Try.ntmps43
    go_wp2_with fail
    go_ret
    exact ⟨_, rfl, ⟨rfl, .inl ⟨rfl, rfl⟩⟩, Below.refl _ _⟩
  · rw [intsV_len]
    obtain ⟨i0, hi, hz0, hz1, hz2⟩ := info_parts info3
    have h0 := ow_new w w.heap.size (Nat.le_refl _)
    have hb0 : Below w.heap.size w (w.alloc (.cells #[] 3)) := (Below.refl _ _).alloc (Nat.le_refl _) _
    have hr0 := hr.same (hb0.block g hr.lt)
    obtain ⟨v', w', hrun, r1, r2, r3⟩ := run_append_own (P := Try.prog) (w.alloc (.cells #[] 3)) w.heap.size 36 36 3 i0 (.int .i64 0) 1 8 Try.underlying36 hi hz0 hz1 hz2 rfl (by decide) _ 0 [] h0 ⟨g, off, none⟩ xs.length c (intsV xs) (by rw [intsV_len, Nat.mul_one]) (by
          intro j u hj
          obtain ⟨hj1, hj2⟩ := List.getElem?_eq_some_iff.1 hj
          rw [addr_add, hr0.at j hj1, hj2]) (by simp [intsV, Value.oneCell']) (by simp [maxLen]; omega) (by omega) (by simp)
    have hB : Below w.heap.size w w' := hb0.grown r2 (by simp) (fun k hk => (World.ownsRow.lt h0 k hk).1)
    have hO : Ow w' w.heap.size v' xs := by
      unfold Ow
      simpa [intsV] using r1
    have HRUN := Lib.hid hrun
    have HO := Lib.hid hO
    have HB := Lib.hid hB
    clear hi hz0 hz1 hz2 h0 hb0 hrun r1 r2 r3 hB hO hr hr0
    go_enter Try.func43, Try.ntmps43
    go_wp2_with (at_builtin; refine wpList_app rfl (.tmp 5) (.tmp 6) 36 36 rfl rfl _ _ rfl rfl HRUN.out ?_)
    go_ret
    exact ⟨_, rfl, HO.out, HB.out⟩
def thoseF (ms : List Int) (m : Int) : Nat → List Int
  | 0 => []
  | k + 1 => if ms.getD k 0 = m then thoseF ms m k ++ [(k : Int)] else thoseF ms m k
theorem thoseF_len (ms : List Int) (m : Int) (k : Nat) : (thoseF ms m k).length ≤ k := by
  induction k with
  | zero => exact Nat.le_refl _
  | succ k ih =>
    unfold thoseF
    split
    · rw [List.length_append, List.length_singleton]; omega
    · omega
def ThRel (w : World) (s : LS) (m : Int) (u5 u13 : Value) (wr : World) : Prop := ∃ k : Nat, u13 = .int .i64 k ∧ k ≤ s.n ∧ Ow wr w.heap.size u5 (thoseF s.mood m k) ∧ Below w.heap.size w wr
theorem ow_nil (w : World) (b : Nat) : Ow w b (.slice none 0 0) [] := ⟨rfl, .inl ⟨rfl, rfl⟩⟩
set_option maxHeartbeats 4000000 in
theorem those_calls {w : World} {T : Nat} {s : LS} (h : Low w T s) (m : Int) : Calls Try.prog 42 #[.pointer (some ⟨T, 0, none⟩), .int .i64 m] w fun e w' => ∃ v, e = .returned v ∧ Ow w' w.heap.size v (thoseF s.mood m s.n) ∧ Below w.heap.size w w' := by
  have c0 := h.cells.1
  have hn6 := h.hn
  have H := Lib.hid h
  clear h
  go_enter Try.func42, Try.ntmps42
  go_wp2_with fail
  go_loopw [5, 13] (fun u5 u13 wr => ThRel w s m u5 u13 wr) (fun _ u13 _ => s.n - (intOf u13).toNat)
  case atStart => exact ⟨0, rfl, Nat.zero_le _, ow_nil _ _, Below.refl _ _⟩
  case round =>
    obtain ⟨k, rfl, hk, ho, hb⟩ := hrel
    have HO := Lib.hid ho
    have HB := Lib.hid hb
    by_cases hlt : k < s.n
    · have hL := H.out.below hb
      obtain ⟨d1, d2⟩ := hL.cR hlt
      obtain ⟨x, hx⟩ : ∃ x, x = s.mood.getD k 0 := ⟨_, rfl⟩
      rw [← hx] at d2
      obtain ⟨W, hW⟩ : ∃ W, W = wr.alloc (.cells #[.slice (some ⟨s.K k, 0, none⟩) s.n (s.Kc k), .int .i64 x] 77) := ⟨_, rfl⟩
      have hbW : Below wr.heap.size wr W := by rw [hW]; exact (Below.refl _ _).alloc (Nat.le_refl _) _
      have hoW := ho.below hbW
      have hbW2 := hb.trans (hbW.mono hb.size)
      obtain ⟨A, n', c', w5, hrun, ho5, hb5⟩ := ow_push (k : Int) hoW hbW2.size (by have := thoseF_len s.mood m k; omega)
      have hsz : W.heap.size = wr.heap.size + 1 := by rw [hW]; simp
      rw [hsz, hW] at hrun
      have HX := Lib.hid hx
      have HWW := Lib.hid hW
      have HRUN := Lib.hid hrun
      have HO5 := Lib.hid ho5
      have HB5 := Lib.hid (hbW2.trans hb5)
      have HOW := Lib.hid hoW
      have HBW := Lib.hid hbW2
      have z1 : (0 : Int) ≤ (k : Int) ∧ (k : Int) < s.n := by omega
      clear c0 hL hx hW hbW hoW hbW2 hrun ho5 hb5 ho hb hsz
      by_cases hxm : x = m
      · subst hxm
        go_wp2_with (at_builtin; refine wpList_app rfl (.tmp 22) (.tmp 24) 36 36 rfl rfl _ _ rfl rfl HRUN.out ?_)
        go_roundw
        case rel => exact ⟨k + 1, by go_num, by omega, by unfold thoseF; rw [if_pos HX.out.symm]; exact HO5.out, HB5.out⟩
        case measure => simp [intOf]; omega
      · go_wp2_with fail
        have hW := HWW.out
        rw [← hW]
        go_roundw
        case rel => exact ⟨k + 1, by go_num, by omega, by unfold thoseF; rw [if_neg (fun e => hxm (HX.out.trans e))]; exact HOW.out, HBW.out⟩
        case measure => simp [intOf]; omega
    · have hkn : k = s.n := by omega
      subst hkn
      clear ho hb
      go_wp2_with fail
      go_ret
      exact ⟨_, rfl, HO.out, HB.out⟩
theorem known_calls {w : World} {T i : Nat} {s : LS} (h : Low w T s) (hi : i < s.n) : Calls Try.prog 26 #[.pointer (some ⟨T, 0, none⟩), .int .i64 i] w fun e w' => ∃ v, e = .returned v ∧ Ow w' w.heap.size v (s.known.getD i []) ∧ Below w.heap.size w w' := by
  have C1 := Lib.hid (check_in h hi)
  have c0 := h.cells.1
  have c1 := (h.cR hi).1
  have hn := h.hn
  have CC := Lib.hid (cloneI_calls (w := w) (v := .slice (some ⟨s.K i, 0, none⟩) s.n (s.Kc i)) (xs := s.known.getD i []) (.inr ⟨s.K i, 0, s.Kc i, by rw [intsV_len, h.lki i hi], h.hK i hi⟩) (by rw [h.lki i hi]; omega))
  have z1 : (0 : Int) ≤ (i : Int) ∧ (i : Int) < s.n := by omega
  clear h
  go_enter Try.func26, Try.ntmps26
  go_wp2_with fail
  refine C1.out.mono ?_
  rintro e w1 ⟨rfl, rfl⟩
  go_wp2_with fail
  refine CC.out.mono ?_
  rintro e w1 ⟨v, rfl, ho, hb⟩
  have HO := Lib.hid ho
  have HB := Lib.hid hb
  clear ho hb
  go_wp2_with fail
  go_ret
  exact ⟨_, rfl, HO.out, HB.out⟩
theorem known_out {w : World} {T : Nat} {i : Int} {s : LS} (h : Low w T s) (hi : thereB s.n i = false) : Calls Try.prog 26 #[.pointer (some ⟨T, 0, none⟩), .int .i64 i] w fun e w' => e = .returned nilV ∧ w = w' := by
  have C1 := Lib.hid (check_out h hi)
  clear h hi
  go_enter Try.func26, Try.ntmps26
  go_wp2_with fail
  refine C1.out.mono ?_
  rintro e w1 ⟨rfl, rfl⟩
  go_wp2_with fail
  go_ret
  exact ⟨rfl, rfl⟩
theorem waiting_calls {w : World} {T : Nat} {s : LS} (h : Low w T s) : Calls Try.prog 21 #[.pointer (some ⟨T, 0, none⟩)] w fun e w' => ∃ v, e = .returned v ∧ Ow w' w.heap.size v (thoseF s.mood 1 s.n) ∧ Below w.heap.size w w' := by
  have C1 := Lib.hid (made_calls h)
  have C2 := Lib.hid (those_calls h 1)
  clear h
  go_enter Try.func21, Try.ntmps21
  go_wp2_with fail
  refine C1.out.mono ?_
  rintro e w1 ⟨rfl, rfl⟩
  go_wp2_with fail
  refine C2.out.mono ?_
  rintro e w1 ⟨v, rfl, ho, hb⟩
  have HO := Lib.hid ho
  have HB := Lib.hid hb
  clear ho hb
  go_wp2_with fail
  go_ret
  exact ⟨_, rfl, HO.out, HB.out⟩
def headF (l : List Int) : Int := l.headD (-1)
theorem inside_calls {w : World} {T : Nat} {s : LS} (h : Low w T s) : Calls Try.prog 18 #[.pointer (some ⟨T, 0, none⟩)] w fun e w' => e = .returned (.int .i64 (headF (thoseF s.mood 2 s.n))) ∧ Below w.heap.size w w' := by
  have C1 := Lib.hid (made_calls h)
  have C2 := Lib.hid (those_calls h 2)
  have hn := h.hn
  have hl := thoseF_len s.mood 2 s.n
  obtain ⟨l, hl2⟩ : ∃ l, l = thoseF s.mood 2 s.n := ⟨_, rfl⟩
  rw [← hl2] at C2 hl ⊢
  clear h hl2
  go_enter Try.func18, Try.ntmps18
  go_wp2_with fail
  refine C1.out.mono ?_
  rintro e w1 ⟨rfl, rfl⟩
  go_wp2_with fail
  refine C2.out.mono ?_
  rintro e w1 ⟨v, rfl, ho, hb⟩
  have HB := Lib.hid hb
  obtain ⟨A, c, rfl, hlc, hc, _, hrd⟩ := ho.sl
  clear ho hb
  cases l with
  | nil =>
    simp only [List.length_nil]
    clear hrd
    go_wp2_with fail
    go_ret
    exact ⟨rfl, HB.out⟩
  | cons x r =>
    obtain ⟨b, o, rfl, hb, hcell⟩ := hrd (by simp)
    have c1 : w1.cell? ⟨b, o, none⟩ = some (.int .i64 x) := hcell 0 (by simp)
    have hlen : (0 : Int) < (r.length : Int) + 1 := by omega
    simp only [List.length_cons] at hlc hl ⊢
    clear hcell hrd hb
    go_wp2_with fail
    go_ret
    exact ⟨rfl, HB.out⟩
end Go.Proofs.Ytahjgdikjaakbaa
