/- What is proved: root, squares, Four, Three. No condition beyond those in each statement. -/
import Derived.Test.YthnhmfmlhlpggaaO
namespace Go.Proofs.Ythnhmfmlhlpggaa
open Go.RowKit
set_option maxRecDepth 100000

theorem root_calls (n : Nat) (hn : n ≤ 10000) (w : World) : Calls Try.prog 41 #[.int .i64 n] w fun e w' => ∃ r : Nat, e = .returned (.int .i64 r) ∧ (r * r ≤ n ∧ n < (r + 1) * (r + 1) ∧ r ≤ 100) ∧ w = w' := by
  go_enter Try.func41, Try.ntmps41
  go_wp2_with fail
  go_loop [3] (fun v => ∃ r : Nat, v = .int .i64 r ∧ Hid (r * r ≤ n) ∧ r ≤ 100) (fun v => 101 - (intOf v).toNat)
  case atStart => exact ⟨0, rfl, Nat.zero_le _, by omega⟩
  case round =>
    obtain ⟨r, rfl, hr, hr1⟩ := hrel
    obtain ⟨q, hq⟩ : ∃ q : Nat, (r + 1) * (r + 1) = q := ⟨_, rfl⟩
    have hqb : q ≤ 10201 := by rw [← hq]; exact Nat.le_trans (Nat.mul_le_mul (show r + 1 ≤ 101 by omega) (show r + 1 ≤ 101 by omega)) (by decide)
    have hm : ((r : Int) + 1) * ((r : Int) + 1) = (q : Int) := by rw [← hq]; simp
    have HQ := Lib.hid hq
    clear hq
    by_cases hlt : q ≤ n
    · have hr2 : r + 1 ≤ 100 := by
        apply Classical.byContradiction
        intro h
        have h1 : 101 * 101 ≤ (r + 1) * (r + 1) := Nat.mul_le_mul (by omega) (by omega)
        have := HQ.out
        omega
      go_wp2_with fail
      go_round
      case rel => exact ⟨r + 1, by go_num, by show (r + 1) * (r + 1) ≤ n; rw [HQ.out]; exact hlt, hr2⟩
      case measure => simp [intOf]; omega
    · go_wp2_with fail
      go_ret
      exact ⟨r, rfl, ⟨hr, by rw [HQ.out]; omega, hr1⟩, rfl⟩
/-- The search for squares from a number on downward. -/
def sqG (f : Nat → Nat → Option (List Int)) (k n : Nat) : Nat → Option (List Int)
  | 0 => none
  | y + 1 => if k * y * y < n then none else if n < y * y then sqG f k n y else match f (n - y * y) y with
    | some l => some ((y : Int) :: l)
    | none => sqG f k n y
def sqF : Nat → Nat → Nat → Option (List Int)
  | 0, n, _ => if n = 0 then some [] else none
  | k + 1, n, b => sqG (sqF k) (k + 1) n (b + 1)
def SqI (w : World) (k n b : Nat) (v : Value) (wr : World) : Prop := ∃ y : Nat, v = .int .i64 ((y : Int) - 1) ∧ y ≤ b + 1 ∧ Hid (sqF (k + 1) n b = sqG (sqF k) (k + 1) n y) ∧ Hid (Below w.heap.size w wr)
theorem sq_push {w : World} {x : Int} {a : Addr} {n c : Nat} {l : List Int} (h : Sl w (.slice (some a) n c) l) (hl : l.length ≤ 100) : ∃ v' w', (Builtin.append_ #[27, 27] 27 #[.slice (some ⟨w.heap.size, 0, none⟩) 1 1, .slice (some a) n c]).run Try.prog (w.alloc (.cells #[.int .i64 x] 3)) = .ok v' w' ∧ OptSl w' v' (some (x :: l)) ∧ Below w.heap.size w w' := by
  have hA : Arr (w.alloc (.cells #[.int .i64 x] 3)) w.heap.size w.heap.size 1 [x] := Arr.of_heap (World.alloc_heap_new _ _) (Nat.le_refl _) rfl (by simp)
  have hb0 : Below w.heap.size w (w.alloc (.cells #[.int .i64 x] 3)) := (Below.refl _ _).alloc (Nat.le_refl _) _
  obtain ⟨A, n', c', e, hn, h1, h2, h3⟩ := h.parts
  cases e
  obtain ⟨v', w', hrun, g', c', rfl, hA', hB, _⟩ := owi_app (a := a) (cf := c) (n := 1) (m := n) (ys := l) rfl hn hA (fun j hj => by
    obtain ⟨b, o, e, hb, hc⟩ := h3 (fun e => by subst e; simp at hj)
    cases e
    rw [addr_add, hb0.cell (p := ⟨b, o + j, none⟩) hb]; exact hc j hj) (by simp) (by simp; omega)
  exact ⟨_, _, hrun, ⟨⟨_, _, _, rfl⟩, Ow.sl hA'⟩, hb0.trans hB⟩
theorem sqF_len : ∀ (k n b : Nat) (l : List Int), sqF k n b = some l → l.length = k := by
  intro k
  induction k with
  | zero =>
    intro n b l h
    unfold sqF at h
    split at h
    · cases h; rfl
    · cases h
  | succ k ih =>
    intro n b l h
    have key : ∀ y, sqG (sqF k) (k + 1) n y = some l → l.length = k + 1 := by
      intro y
      induction y with
      | zero => intro h; cases h
      | succ y ihy =>
        intro h
        unfold sqG at h
        split at h
        · cases h
        · split at h
          · exact ihy h
          · split at h
            · rename_i l' hl
              cases h
              rw [List.length_cons, ih _ _ _ hl]
            · exact ihy h
    exact key _ h
set_option maxHeartbeats 4000000 in
theorem squares_calls : ∀ (k n b : Nat) (w : World), k ≤ 4 → n ≤ 10000 → b ≤ 100 → Calls Try.prog 40 #[.int .i64 n, .int .i64 k, .int .i64 b] w fun e w' => ∃ v, e = .returned v ∧ OptSl w' v (sqF k n b) ∧ Below w.heap.size w w' := by
  intro k
  induction k with
  | zero =>
    intro n b w _ hn hb
    by_cases h0 : n = 0
    · subst h0
      go_enter Try.func40, Try.ntmps40
      go_wp2_with fail
      go_ret
      refine ⟨_, rfl, ⟨⟨_, _, _, rfl⟩, Ow.sl (ow_new w w.heap.size (Nat.le_refl _))⟩, (Below.refl _ _).alloc (Nat.le_refl _) _⟩
    · have h1 : decide ((n : Int) = 0) = false := decide_eq_false (by omega)
      have h2 : ((n : Int) == 0) = false := by rw [beq_eq_false_iff_ne]; omega
      go_enter Try.func40, Try.ntmps40
      go_wp2_with fail
      go_ret
      refine ⟨_, rfl, ?_, Below.refl _ _⟩
      unfold sqF
      rw [if_neg h0]
      rfl
  | succ k ih =>
    intro n b w hk hn hb
    have HIH := Lib.hid ih
    obtain ⟨K, hK⟩ : ∃ K, K = k + 1 := ⟨_, rfl⟩
    rw [← hK]
    have HK := Lib.hid hK
    have hK1 : 1 ≤ K ∧ K ≤ 4 := by omega
    have h2 : ((K : Int) == 0) = false := by rw [beq_eq_false_iff_ne]; omega
    have qT : ∀ (w : World) (a : Option Addr) (n c n' c' : Nat), (binOp .neq 27 (.slice a n c) (.slice none n' c')).run Try.prog w = .ok (.bool (!a.isNone)) w := fun w a n c n' c' => run_neq_slice_nil_any w _ _ a n c n' c' Try.underlying27
    clear ih hK
    go_enter Try.func40, Try.ntmps40
    go_wp2_with fail
    go_loopw [7, 8] (fun v _ wr => SqI w k n b v wr) (fun v _ _ => (intOf v + 1).toNat)
    case atStart => exact ⟨b + 1, by congr 1; omega, Nat.le_refl _, rfl, Below.refl _ _⟩
    case round =>
      obtain ⟨y, rfl, hy, HE, HB⟩ := hrel
      cases y with
      | zero =>
        go_wp2_with fail
        go_ret
        refine ⟨.slice none 0 0, rfl, ?_, HB.out⟩
        have hq := HE.out
        rw [← HK.out] at hq
        rw [hq]
        rfl
      | succ z =>
        have hz : ((z + 1 : Nat) : Int) - 1 = (z : Int) := by omega
        rw [hz]
        have hz0 : (0 : Int) ≤ (z : Int) := by omega
        have hzb : z ≤ 100 := by omega
        obtain ⟨P, hP⟩ : ∃ P : Nat, P = K * z := ⟨_, rfl⟩
        obtain ⟨B, hB⟩ : ∃ B : Nat, B = K * z * z := ⟨_, rfl⟩
        obtain ⟨C, hC⟩ : ∃ C : Nat, C = z * z := ⟨_, rfl⟩
        have hPb : P ≤ 400 := by rw [hP]; exact Nat.le_trans (Nat.mul_le_mul (show K ≤ 4 by omega) hzb) (by decide)
        have hBb : B ≤ 40000 := by rw [hB, ← hP]; exact Nat.le_trans (Nat.mul_le_mul hPb hzb) (by decide)
        have hCb : C ≤ 10000 := by rw [hC]; exact Nat.le_trans (Nat.mul_le_mul hzb hzb) (by decide)
        have e1 : (K : Int) * (z : Int) = (P : Int) := by rw [hP]; simp
        have e2 : (P : Int) * (z : Int) = (B : Int) := by rw [hB, hP]; simp
        have e3 : (z : Int) * (z : Int) = (C : Int) := by rw [hC]; simp
        have HG : Hid (sqF (k + 1) n b = if B < n then none else if n < C then sqG (sqF k) (k + 1) n z else match sqF k (n - C) z with
            | some l => some ((z : Int) :: l)
            | none => sqG (sqF k) (k + 1) n z) := by
          show _ = _
          rw [HE.out, hB, hC, HK.out]
          rfl
        clear hP hB hC HE hz
        by_cases h1 : B < n
        · go_wp2_with fail
          go_ret
          refine ⟨_, rfl, ?_, HB.out⟩
          rw [← HK.out] at HG
          rw [HG.out, if_pos h1]
          rfl
        · by_cases h2 : n < C
          · go_wp2_with fail
            go_roundw
            case rel => exact ⟨z, rfl, by omega, by show _ = _; rw [HG.out, if_neg h1, if_pos h2], HB⟩
            case measure => simp [intOf]
          · have CI := Lib.hid (HIH.out (n - C) z wr (by omega) (by omega) hzb)
            have hnc : (n : Int) - (C : Int) = ((n - C : Nat) : Int) := by omega
            have hk1 : (K : Int) - 1 = (k : Int) := by have := HK.out; omega
            go_wp2_with fail
            refine CI.out.mono ?_
            rintro e w2 ⟨v2, rfl, ho, hb2⟩
            cases hs : sqF k (n - C) z with
            | none =>
              rw [hs] at ho HG
              obtain rfl : v2 = .slice none 0 0 := ho
              have HB2 := Lib.hid (HB.out.trans (hb2.mono HB.out.size))
              clear hb2 hs
              go_wp2_with fail
              go_roundw
              case rel => exact ⟨z, rfl, by omega, by show _ = _; rw [HG.out, if_neg h1, if_neg h2], HB2⟩
              case measure => simp [intOf]
            | some l =>
              rw [hs] at ho HG
              obtain ⟨⟨a2, n2, c2, rfl⟩, hsl⟩ := ho
              have hlen := sqF_len _ _ _ _ hs
              have HB2 := Lib.hid (HB.out.trans (hb2.mono HB.out.size))
              obtain ⟨v3, w3, hrun, ho3, hb3⟩ := sq_push (x := z) hsl (by omega)
              have HRUN := Lib.hid hrun
              have H3 := Lib.hid (And.intro ho3 hb3)
              clear hb2 hs hrun ho3 hb3 hsl
              go_wp2_with (at_builtin; refine wpList_app rfl (.tmp 45) (.tmp 46) 27 27 rfl rfl _ _ rfl rfl HRUN.out ?_)
              go_ret
              refine ⟨_, rfl, ?_, HB2.out.trans (H3.out.2.mono HB2.out.size)⟩
              rw [← HK.out] at HG
              rw [HG.out, if_neg h1, if_neg h2]
              exact H3.out.1
theorem counted_calls (n : Nat) (hn : n ≤ 10000) (w : World) : Calls Try.prog 39 #[.int .i64 n, .int .i64 0] w fun e w' => e = .returned (.bool true) ∧ w = w' := by
  have hd : decide ((n : Int) ≤ 10000) = true := decide_eq_true (by omega)
  go_enter Try.func39, Try.ntmps39
  go_wp2_with fail
  go_ret
  exact ⟨rfl, rfl⟩
theorem four_calls (n : Nat) (hn : n ≤ 10000) (w : World) : Calls Try.prog 11 #[.int .i64 n] w fun e w' => ∃ (r : Nat) (v : Value), e = .returned (.tuple #[v, .int .i64 0]) ∧ (r * r ≤ n ∧ n < (r + 1) * (r + 1)) ∧ OptSl w' v (sqF 4 n r) ∧ Below w.heap.size w w' := by
  have C1 := Lib.hid (counted_calls n hn w)
  have C2 := Lib.hid (root_calls n hn w)
  have C3 := Lib.hid (fun r (hr : r ≤ 100) => squares_calls 4 n r w (Nat.le_refl _) hn hr)
  clear hn
  go_enter Try.func11, Try.ntmps11
  go_wp2_with fail
  refine C1.out.mono ?_
  rintro e w1 ⟨rfl, rfl⟩
  go_wp2_with fail
  refine C2.out.mono ?_
  rintro e w1 ⟨r, rfl, hr, rfl⟩
  have HR := Lib.hid hr
  clear hr
  go_wp2_with fail
  refine (C3.out r HR.out.2.2).mono ?_
  rintro e w2 ⟨v, rfl, ho, hb⟩
  have HO := Lib.hid (And.intro ho hb)
  clear ho hb
  go_wp2_with fail
  go_ret2
  exact ⟨r, v, rfl, ⟨HR.out.1, HR.out.2.1⟩, HO.out⟩
theorem three_calls (n : Nat) (hn : n ≤ 10000) (w : World) : Calls Try.prog 12 #[.int .i64 n] w fun e w' => ∃ (r : Nat) (v : Value), e = .returned (.tuple #[v, .int .i64 (if (sqF 3 n r).isSome = true then 0 else 5)]) ∧ (r * r ≤ n ∧ n < (r + 1) * (r + 1)) ∧ OptSl w' v (sqF 3 n r) ∧ Below w.heap.size w w' := by
  have C1 := Lib.hid (counted_calls n hn w)
  have C2 := Lib.hid (root_calls n hn w)
  have C3 := Lib.hid (fun r (hr : r ≤ 100) => squares_calls 3 n r w (by omega) hn hr)
  have qT : ∀ (w : World) (a : Option Addr) (n c n' c' : Nat), (binOp .eql 27 (.slice a n c) (.slice none n' c')).run Try.prog w = .ok (.bool a.isNone) w := fun w a n c n' c' => Lib.run_eql_slice_nil w _ _ a n c n' c' Try.underlying27
  clear hn
  go_enter Try.func12, Try.ntmps12
  go_wp2_with fail
  refine C1.out.mono ?_
  rintro e w1 ⟨rfl, rfl⟩
  go_wp2_with fail
  refine C2.out.mono ?_
  rintro e w1 ⟨r, rfl, hr, rfl⟩
  have HR := Lib.hid hr
  clear hr
  go_wp2_with fail
  refine (C3.out r HR.out.2.2).mono ?_
  rintro e w2 ⟨v, rfl, ho, hb⟩
  have HB := Lib.hid hb
  cases hs : sqF 3 n r with
  | none =>
    rw [hs] at ho
    obtain rfl : v = .slice none 0 0 := ho
    have HS := Lib.hid hs
    clear hb hs
    go_wp2_with fail
    go_ret2
    refine ⟨r, .slice none 0 0, ?_, ⟨HR.out.1, HR.out.2.1⟩, ?_, HB.out⟩
    · rw [HS.out]; rfl
    · rw [HS.out]; rfl
  | some l =>
    rw [hs] at ho
    obtain ⟨⟨a, n2, c2, rfl⟩, ho2⟩ := ho
    have HO := Lib.hid ho2
    have HS := Lib.hid hs
    clear hb hs ho2
    go_wp2_with fail
    go_ret2
    refine ⟨r, .slice (some a) n2 c2, ?_, ⟨HR.out.1, HR.out.2.1⟩, ?_, HB.out⟩
    · rw [HS.out]; rfl
    · rw [HS.out]; exact ⟨⟨_, _, _, rfl⟩, HO.out⟩
theorem root_one {a b n : Nat} (h1 : a * a ≤ n ∧ n < (a + 1) * (a + 1)) (h2 : b * b ≤ n ∧ n < (b + 1) * (b + 1)) : a = b := by
  rcases Nat.lt_trichotomy a b with h | h | h
  · have := Nat.mul_le_mul (show a + 1 ≤ b from h) (show a + 1 ≤ b from h); omega
  · exact h
  · have := Nat.mul_le_mul (show b + 1 ≤ a from h) (show b + 1 ≤ a from h); omega
theorem four7_calls (w : World) : Calls Try.prog 11 #[.int .i64 7] w fun e w' => ∃ v, e = .returned (.tuple #[v, .int .i64 0]) ∧ Sl w' v [2, 1, 1, 1] ∧ Below w.heap.size w w' := by
  refine (four_calls 7 (by omega) w).mono ?_
  rintro e w' ⟨r, v, rfl, hr, ho, hb⟩
  obtain rfl : r = 2 := root_one hr (by omega)
  rw [show sqF 4 7 2 = some [2, 1, 1, 1] by decide +kernel] at ho
  exact ⟨v, rfl, ho.2, hb⟩
end Go.Proofs.Ythnhmfmlhlpggaa
