/- What is proved: next. No condition beyond those in each statement. -/
import Derived.Test.YthnhmfmlhlpggaaK
namespace Go.Proofs.Ythnhmfmlhlpggaa
open Go.RowKit
set_option maxRecDepth 100000

theorem next_tail {x y : Int} {t1 t2 : List Int} (hd : (t1 ++ y :: t2).Pairwise (· > ·)) (hxy : x < y) (h2 : ∀ z ∈ t2, z < x) : ∀ p : List Int, nextR (p ++ x :: (t1 ++ y :: t2)) = some (p ++ y :: (t1 ++ x :: t2).reverse)
  | [] => by
    show nextR (x :: (t1 ++ y :: t2)) = _
    unfold nextR
    rw [next_down hd]
    show (swapFirst x (t1 ++ y :: t2).reverse).map _ = _
    rw [List.reverse_append, List.reverse_cons, List.append_assoc, List.singleton_append, swap_at hxy (fun z hz => by have := h2 z (by simpa using hz); omega)]
    simp
  | q :: p => by
    show nextR (q :: (p ++ x :: (t1 ++ y :: t2))) = _
    unfold nextR
    rw [next_tail hd hxy h2 p]; rfl
def Desc (xs : List Int) (J : Int) : Prop := ∀ t : Nat, J < t → t + 1 < xs.length → xs.getD (t + 1) 0 < xs.getD t 0
theorem desc_drop {xs : List Int} : ∀ {J : Int}, Desc xs J → ∀ k : Nat, J < k → (xs.drop k).Pairwise (· > ·) := by
  intro J h
  have key : ∀ m k : Nat, xs.length - k = m → J < k → (xs.drop k).Pairwise (· > ·) := by
    intro m
    induction m with
    | zero => intro k hk _; rw [List.drop_of_length_le (by omega)]; exact .nil
    | succ m ih =>
      intro k hk hJ
      have hkl : k < xs.length := by omega
      rw [List.drop_eq_getElem_cons hkl]
      refine List.pairwise_cons.2 ⟨?_, ih (k + 1) (by omega) (by omega)⟩
      intro z hz
      cases hd : xs.drop (k + 1) with
      | nil => rw [hd] at hz; cases hz
      | cons a l =>
        have hk1 : k + 1 < xs.length := by
          have := congrArg List.length hd
          simp at this; omega
        have ha : a = xs[k + 1] := by
          have := List.drop_eq_getElem_cons hk1
          rw [hd] at this
          exact (List.cons.inj this).1
        have h1 := h k hJ hk1
        rw [getD_lt _ () hkl, getD_lt _ () hk1] at h1
        have hp := ih (k + 1) (by omega) (by omega)
        rw [hd] at hp hz
        rcases List.mem_cons.1 hz with rfl | hz
        · rw [ha]; exact h1
        · have := (List.pairwise_cons.1 hp).1 z hz
          rw [ha] at this
          show z < xs[k]
          have : z < xs[k + 1] := this
          omega
  exact fun k hk => key _ k rfl hk
theorem next_none {xs : List Int} (h : Desc xs (-1)) : nextR xs = none := by
  have := desc_drop h 0 (by omega)
  exact next_down this
theorem next_some {xs : List Int} {i j : Nat} (hd : Desc xs i) (hij : i < j) (hj : j < xs.length) (hxy : xs.getD i 0 < xs.getD j 0) (h2 : ∀ t : Nat, j < t → t < xs.length → xs.getD t 0 < xs.getD i 0) :
    nextR xs = some (((xs.set i (xs.getD j 0)).set j (xs.getD i 0)).take (i + 1) ++ (((xs.set i (xs.getD j 0)).set j (xs.getD i 0)).drop (i + 1)).reverse) := by
  have hil : i < xs.length := by omega
  have e1 : xs.drop (i + 1) = (xs.drop (i + 1)).take (j - (i + 1)) ++ xs.getD j 0 :: xs.drop (j + 1) := by
    have := (List.take_append_drop (j - (i + 1)) (xs.drop (i + 1))).symm
    rw [List.drop_drop, show i + 1 + (j - (i + 1)) = j by omega, List.drop_eq_getElem_cons hj] at this
    rw [getD_lt _ () hj]; exact this
  have e0 : xs = xs.take i ++ xs.getD i 0 :: xs.drop (i + 1) := by
    rw [getD_lt _ () hil, ← List.drop_eq_getElem_cons hil, List.take_append_drop]
  have hp := desc_drop hd (i + 1) (by omega)
  rw [e1] at hp
  have h3 : ∀ z ∈ xs.drop (j + 1), z < xs.getD i 0 := by
    intro z hz
    obtain ⟨t, ht, rfl⟩ := List.getElem_of_mem hz
    rw [List.getElem_drop]
    have hlt : j + 1 + t < xs.length := by simp at ht; omega
    have := h2 (j + 1 + t) (by omega) hlt
    rwa [getD_lt _ () hlt] at this
  have key := next_tail hp hxy h3 (xs.take i)
  rw [← e1, ← e0] at key
  rw [key]
  congr 1
  have l1 : (xs.take i).length = i := by rw [List.length_take]; omega
  have l2 : ((xs.drop (i + 1)).take (j - (i + 1))).length = j - (i + 1) := by rw [List.length_take, List.length_drop]; omega
  have ey : (xs.set i (xs.getD j 0)).set j (xs.getD i 0) = xs.take i ++ xs.getD j 0 :: ((xs.drop (i + 1)).take (j - (i + 1)) ++ xs.getD i 0 :: xs.drop (j + 1)) := by
    obtain ⟨a, ha⟩ : ∃ a, a = xs.getD i 0 := ⟨_, rfl⟩
    obtain ⟨b, hb⟩ : ∃ b, b = xs.getD j 0 := ⟨_, rfl⟩
    rw [← ha, ← hb]
    rw [← hb] at e1
    rw [← ha, e1] at e0
    obtain ⟨P, hP⟩ : ∃ P, P = xs.take i := ⟨_, rfl⟩
    obtain ⟨T1, hT1⟩ : ∃ P, P = (xs.drop (i + 1)).take (j - (i + 1)) := ⟨_, rfl⟩
    obtain ⟨T2, hT2⟩ : ∃ P, P = xs.drop (j + 1) := ⟨_, rfl⟩
    rw [← hP, ← hT1, ← hT2] at e0 ⊢
    rw [← hP] at l1
    rw [← hT1] at l2
    rw [e0, List.set_append_right _ _ (by omega), l1, Nat.sub_self, List.set_cons_zero, List.set_append_right _ _ (by omega), l1, show j - i = (j - (i + 1)) + 1 by omega, List.set_cons_succ, List.set_append_right _ _ (by omega), l2, Nat.sub_self, List.set_cons_zero]
  rw [ey]
  obtain ⟨P, hP⟩ : ∃ P, P = xs.take i := ⟨_, rfl⟩
  obtain ⟨R, hR⟩ : ∃ R, R = (xs.drop (i + 1)).take (j - (i + 1)) ++ xs.getD i 0 :: xs.drop (j + 1) := ⟨_, rfl⟩
  rw [← hP] at l1
  rw [← hP, ← hR]
  rw [show P ++ xs.getD j 0 :: R = (P ++ [xs.getD j 0]) ++ R by simp, List.take_left' (by simp; omega), List.drop_left' (by simp; omega)]
  simp

theorem int_eq {a b : Int} (h : a = b) : Value.int .i64 a = .int .i64 b := by rw [h]
def NextI (w : World) (base g c : Nat) (xs : List Int) (s : Value) (wr : World) : Prop :=
  ∃ J : Int, s = .int .i64 J ∧ -1 ≤ J ∧ J + 1 < xs.length ∧ Hid (Desc xs J) ∧ Hid (Arr wr base g c xs) ∧ Hid (Bo base g w wr)
def NextJ (w : World) (base g c : Nat) (xs : List Int) (i : Nat) (s : Value) (wr : World) : Prop :=
  ∃ j : Nat, s = .int .i64 j ∧ i < j ∧ j < xs.length ∧ Hid (∀ t : Nat, j < t → t < xs.length → xs.getD t 0 < xs.getD i 0) ∧ Hid (Arr wr base g c xs) ∧ Hid (Bo base g w wr)
/-- What next does. -/
def NextP (w : World) (base g c : Nat) (xs : List Int) (e : Ending) (w' : World) : Prop :=
  Bo base g w w' ∧ match nextR xs with
  | none => e = .returned (.bool false) ∧ Arr w' base g c xs
  | some ys => e = .returned (.bool true) ∧ Arr w' base g c ys

set_option maxHeartbeats 8000000 in
theorem next_calls (base g c : Nat) (xs : List Int) (n : Nat) (w : World) (h : Arr w base g c xs) (hn : n = xs.length) (hx : 1 ≤ n ∧ n ≤ 1000) (hnd : xs.Nodup) :
    Calls Try.prog 93 #[.slice (some ⟨g, 0, none⟩) n c] w (NextP w base g c xs) := by
  have HA := Lib.hid h
  have HN := Lib.hid hn
  have hbd := h.bd
  rw [← hn] at hbd
  have HND : Hid (∀ a b : Nat, a < b → b < xs.length → xs.getD a 0 ≠ xs.getD b 0) := by
    intro a b hab hb
    rw [getD_lt _ () (by omega : a < xs.length), getD_lt _ () hb]
    exact List.pairwise_iff_getElem.1 hnd a b (by omega) hb hab
  clear h hn hnd
  go_enter Try.func93, Try.ntmps93
  go_wp2_with fail
  go_loopw [3] (NextI w base g c xs) (fun s _ => (intOf s + 1).toNat)
  case atStart => exact ⟨(n : Int) - 2, rfl, by omega, by have := HN.out; omega, fun t h1 h2 => by have := HN.out; omega, HA.out, Bo.refl _ _ _⟩
  case round =>
    obtain ⟨J, rfl, hJ1, hJ2, HD, HAr, HBr⟩ := hrel
    by_cases hJ : J < 0
    · have hg : decide (0 ≤ J) = false := decide_eq_false (by omega)
      have HR : Hid (nextR xs = none) := by
        show _ = _
        have := HD.out
        rw [show J = -1 by omega] at this
        exact next_none this
      go_wp2_with fail
      go_quiet (fail)
      go_wp2_with fail
      go_ret
      show NextP _ _ _ _ _ _ _
      unfold NextP
      rw [HR.out]
      exact ⟨HBr.out.drewN _, rfl, HAr.out⟩
    · obtain ⟨i, rfl⟩ : ∃ i : Nat, J = i := ⟨J.toNat, by omega⟩
      have hg : decide (0 ≤ (i : Int)) = true := decide_eq_true (by omega)
      have hil : i < xs.length := by omega
      have hil1 : i + 1 < xs.length := by omega
      have c1 := HAr.out.at i hil
      have c2 := HAr.out.at (i + 1) hil1
      obtain ⟨x, hx'⟩ : ∃ q, q = xs.getD i 0 := ⟨_, rfl⟩
      obtain ⟨y, hy'⟩ : ∃ q, q = xs.getD (i + 1) 0 := ⟨_, rfl⟩
      rw [← getD_lt 0 () hil, ← hx'] at c1
      rw [← getD_lt 0 () hil1, ← hy'] at c2
      have hne : x ≠ y := by rw [hx', hy']; exact HND.out i (i + 1) (by omega) hil1
      have hin : i + 1 < n := by have := HN.out; omega
      have b1 : (0 : Int) ≤ i ∧ (i : Int) < n := by omega
      have b2 : (0 : Int) ≤ (i : Int) + 1 ∧ (i : Int) + 1 < n := by omega
      have w1 : IntKind.i64.wrap (i : Int) = i := IntWalk.i64_in _ (by omega)
      have w2 : IntKind.i64.wrap ((i : Int) + 1) = (i : Int) + 1 := IntWalk.i64_in _ (by omega)
      by_cases hgt : y < x
      · have hgt2 : decide (y < x) = true := decide_eq_true hgt
        have HD2 : Hid (Desc xs ((i : Int) - 1)) := by
          intro t h1 h2
          rcases Nat.lt_or_ge i t with h3 | h3
          · exact HD.out t (by omega) h2
          · rw [show t = i by omega, ← hx', ← hy']; exact hgt
        clear hx' hy' hne
        go_wp2_with fail
        go_quiet (fail)
        clear w1 w2 b1 b2 c1 c2
        go_wp2_with fail
        go_roundw
        case rel => exact ⟨(i : Int) - 1, rfl, by omega, by omega, HD2, HAr.out, HBr.out.drewN _⟩
        case measure => first | (simp [intOf]; done) | (simp [intOf]; omega)
      · have hgt2 : decide (y < x) = false := decide_eq_false hgt
        have hxy : x < y := by omega
        have HX := Lib.hid hx'
        have HY := Lib.hid hy'
        have c1' := Lib.hid c1
        clear hx' hy' hne
        go_wp2_with fail
        go_quiet (fail)
        clear w1 w2 b2 c1 c2
        obtain ⟨W1, hW1⟩ : ∃ q, q = wr.drewN nq := ⟨_, rfl⟩
        have HA1 : Hid (Arr W1 base g c xs) := by rw [hW1]; exact HAr.out
        have HB1 : Hid (Bo base g w W1) := by rw [hW1]; exact HBr.out.drewN _
        rw [← hW1]
        clear hW1 hgt2 hgt
        go_wp2_with fail
        go_loopw [4] (NextJ w base g c xs i) (fun s _ => (intOf s).toNat)
        case atStart => exact ⟨n - 1, int_eq (by omega), by omega, by have := HN.out; omega, fun t h1 h2 => by have := HN.out; omega, HA1, HB1⟩
        case round =>
          obtain ⟨j, rfl, hij, hjl, HT, HAj, HBj⟩ := hrel
          have e1 := HAj.out.at j hjl
          have e2 := HAj.out.at i hil
          obtain ⟨z, hz⟩ : ∃ q, q = xs.getD j 0 := ⟨_, rfl⟩
          rw [← getD_lt 0 () hjl, ← hz] at e1
          rw [← getD_lt 0 () hil, ← HX.out] at e2
          have hjn : j < n := by have := HN.out; omega
          have b3 : (0 : Int) ≤ j ∧ (j : Int) < n := by omega
          have w3 : IntKind.i64.wrap (j : Int) = j := IntWalk.i64_in _ (by omega)
          have w1 : IntKind.i64.wrap (i : Int) = i := IntWalk.i64_in _ (by omega)
          have hzx : z ≠ x := by
            have := HX.out
            rw [hz, this]; exact fun e => HND.out i j hij hjl e.symm
          by_cases hlt : z < x
          · have hlt2 : decide (z < x) = true := decide_eq_true hlt
            have hj1 : i + 1 < j := by
              rcases Nat.lt_or_ge (i + 1) j with h | h
              · exact h
              · exfalso
                have hji : j = i + 1 := by omega
                have := HY.out
                rw [hji, ← this] at hz
                omega
            have HT2 : Hid (∀ t : Nat, j - 1 < t → t < xs.length → xs.getD t 0 < xs.getD i 0) := by
              intro t h1 h2
              rcases Nat.lt_or_ge j t with h3 | h3
              · exact HT.out t h3 h2
              · rw [show t = j by omega, ← hz, ← HX.out]; exact hlt
            clear hz hzx
            go_wp2_with fail
            go_quiet (fail)
            clear w1 w3 b3 e1 e2
            go_wp2_with fail
            go_roundw
            case rel => exact ⟨j - 1, int_eq (by omega), by omega, by omega, HT2, HAj.out, HBj.out.drewN _⟩
            case measure => first | (simp [intOf]; done) | (simp [intOf]; omega)
          · have hlt2 : decide (z < x) = false := decide_eq_false hlt
            have hxz : x < z := by omega
            obtain ⟨ys, hys⟩ : ∃ ys, ys = (xs.set i z).set j x := ⟨_, rfl⟩
            have HNX : Hid (nextR xs = some (ys.take (i + 1) ++ (ys.drop (i + 1)).reverse)) := by
              show _ = _
              have := next_some HD.out hij hjl (by rw [← HX.out, ← hz]; exact hxz) HT.out
              rw [← HX.out, ← hz, ← hys] at this
              exact this
            have hyl : ys.length = xs.length := by rw [hys]; simp
            have f1 := HAj.out.free i
            have f2 := HAj.out.free j
            have HS : Hid (∀ nn : Nat, Arr (((wr.drewN nn).setCell ⟨g, i, none⟩ (.int .i64 z)).setCell ⟨g, j, none⟩ (.int .i64 x)) base g c ys ∧ Bo base g w (((wr.drewN nn).setCell ⟨g, i, none⟩ (.int .i64 z)).setCell ⟨g, j, none⟩ (.int .i64 x))) := by
              intro nn
              have ha : Arr (wr.drewN nn) base g c xs := HAj.out
              have s1 := ha.set2 i z
              have s2 := s1.1.set2 j x
              refine ⟨?_, ((HBj.out.drewN nn).trans s1.2).trans s2.2⟩
              rw [hys]; exact s2.1
            have HYL := Lib.hid hyl
            clear hys hyl hz hzx
            go_wp2_with fail
            go_quiet (fail)
            clear w1 w3 b3
            go_wp2_with fail
            go_region
            all_goals
              clear e1 e2 f1 f2
              have hci : ¬ c = i + 1 := by omega
              have HS2 := Lib.hid (HS.out (nq + 1))
              have hyl := HYL.out
              have HREV := Lib.hid (fun (u : World) (hu : Arr u base g c ys) => reverse_calls base g c ys (i + 1) (n - (i + 1)) (c - (i + 1)) u hu (by have := HN.out; omega) (by omega) (by have := HN.out; omega))
              clear hyl
              go_wp2_with fail
              refine (HREV.out _ HS2.out.1).mono ?_
              rintro e w5 ⟨rfl, hA5, hB5⟩
              have HA5 := Lib.hid hA5
              have HB5 := Lib.hid (HS2.out.2.trans hB5)
              clear hA5 hB5
              go_wp2_with fail
              go_ret
              show NextP _ _ _ _ _ _ _
              unfold NextP
              rw [HNX.out]
              exact ⟨HB5.out, rfl, HA5.out⟩
end Go.Proofs.Ythnhmfmlhlpggaa
