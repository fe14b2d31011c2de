/- What is proved: Pair, known, appends (contracts of functions of paint, and what they need). No condition beyond those in each statement. -/
import Derived.Test.YtplafgmceggcnaaN
namespace Go.Proofs.Ytplafgmceggcnaa
open Go.RowKit

def pairAcc (n : Nat) : Nat → Int
  | 0 => 0
  | i + 1 => pairAcc n i + ((n : Int) - 1 - i)
theorem pairAcc_eq : ∀ n, n ≤ 8 → ∀ a, a ≤ n → 2 * pairAcc n a = (a : Int) * (2 * n - a - 1) := by decide
theorem pairAcc_le : ∀ n, n ≤ 8 → ∀ a, a ≤ n → 0 ≤ pairAcc n a ∧ pairAcc n a ≤ 100 := by decide

theorem pair_calls (n a c : Int) (w : World) (h0 : 0 ≤ a) (h1 : a ≤ c) (h2 : c < n) (h3 : n ≤ 8) :
    Calls Try.prog 34 #[.int .i64 n, .int .i64 a, .int .i64 c] w fun e w' => e = .returned (.int .i64 (placeZ n a c)) ∧ w = w' := by
  obtain ⟨m, rfl⟩ := Int.eq_ofNat_of_zero_le (by omega : 0 ≤ n)
  obtain ⟨p, rfl⟩ := Int.eq_ofNat_of_zero_le h0
  obtain ⟨q, rfl⟩ := Int.eq_ofNat_of_zero_le (by omega : 0 ≤ c)
  go_enter Try.func34, Try.ntmps34
  go_wp2_with fail
  go_loop [7, 8] (fun s v => ∃ i : Nat, s = .int .i64 (pairAcc m i) ∧ v = .int .i64 i ∧ i ≤ p) (fun _ v => p - (intOf v).toNat)
  case atStart => exact ⟨0, rfl, rfl, Nat.zero_le _⟩
  case round =>
    obtain ⟨i, rfl, rfl, hi⟩ := hrel
    have hle := pairAcc_le m (by omega) i (by omega)
    by_cases hlt : i < p
    · go_wp2_with fail
      go_round
      case rel => exact ⟨i + 1, by rw [pairAcc], by go_num, by omega⟩
      case measure => simp [intOf]; omega
    · have he := pairAcc_eq m (by omega) i (by omega)
      have hip : i = p := by omega
      have HE : Hid (pairAcc m i + (q : Int) - p - 1 = placeZ m p q) := by
        show _ = _
        unfold placeZ
        rw [← hip, ← he]
        omega
      clear he hip
      go_wp2_with fail
      go_ret
      exact ⟨ret_int HE.out, rfl⟩
theorem pair_at (n y x p q : Int) (w : World) (hp : p = min y x) (hq : q = max y x) (h1 : 0 ≤ min y x) (h3 : max y x < n) (h4 : n ≤ 8) :
    Calls Try.prog 34 #[.int .i64 n, .int .i64 p, .int .i64 q] w fun e w' => e = .returned (.int .i64 (atZ n y x)) ∧ w = w' := by
  subst hp hq
  exact pair_calls n (min y x) (max y x) w h1 (by omega) h3 h4

def knB (n : Nat) (cs : List Int) (color y x : Int) : Bool := decide (atZ n y x < cs.length) && cs.getD (atZ n y x).toNat 0 == color
theorem known_calls (n : Nat) (hn : n ≤ 8) (A : Option Addr) (nc cc : Nat) (cs : List Int) (color y x : Int) (w : World) (hnc : nc = cs.length) (hA : Rd w A cs) (_hl : nc ≤ cc) (_hc : cc ≤ 9223372036854775807)
    (hy : 0 ≤ y ∧ y < n) (hx : 0 ≤ x ∧ x < n) (hne : y ≠ x) :
    Calls Try.prog 61 #[.int .i64 n, .slice A nc cc, .int .i64 y, .int .i64 x, .int .i64 color] w fun e w' => e = .returned (.bool (knB n cs color y x)) ∧ w = w' := by
  have ha0 := atZ_nonneg (n := n) hne (by omega) (by omega)
  have HNC := Lib.hid hnc
  have HA := Lib.hid hA
  obtain ⟨t, ht⟩ := Int.eq_ofNat_of_zero_le ha0
  have HT := Lib.hid ht
  clear ha0 ht hnc hA
  by_cases htl : t < nc
  · have htl' : t < cs.length := by have := HNC.out; omega
    have HR : Hid (knB n cs color y x = (cs[t] == color)) := by
      show _ = _
      unfold knB
      rw [HT.out, decide_eq_true (by omega)]; simp [List.getD_eq_getElem?_getD, htl']
    obtain ⟨bc, oc, rfl, hbc, hcc⟩ := HA.out.at t htl'
    go_enter Try.func61, Try.ntmps61
    go_wp2_with fail
    all_goals
      refine (pair_at n y x _ _ _ (by omega) (by omega) (by omega) (by omega) (by omega)).mono ?_
      rw [HT.out]
      rintro e w1 ⟨rfl, rfl⟩
      go_wp2_with fail
      go_ret
      exact ⟨ret_bool HR.out.symm, rfl⟩
  · have HR : Hid (knB n cs color y x = false) := by
      show _ = _
      unfold knB
      rw [HT.out, decide_eq_false (by have := HNC.out; omega)]; rfl
    go_enter Try.func61, Try.ntmps61
    go_wp2_with fail
    all_goals
      refine (pair_at n y x _ _ _ (by omega) (by omega) (by omega) (by omega) (by omega)).mono ?_
      rw [HT.out]
      rintro e w1 ⟨rfl, rfl⟩
      go_wp2_with fail
      go_ret
      exact ⟨ret_bool HR.out.symm, rfl⟩

theorem info3' : (Try.prog.info? 3).map (fun i => (i.zero, i.size, i.bytes)) = some (some (.int .i64 0), 1, 8) := by kernel_rfl
theorem ow_new (w : World) (base : Nat) (hb : base ≤ w.heap.size) : Ow (w.alloc (.cells #[] 3)) base (.slice (some ⟨w.heap.size, 0, none⟩) 0 0) [] :=
  ⟨rfl, .inr ⟨w.heap.size, 0, #[], rfl, hb, World.alloc_heap_new w _, Nat.le_refl _, by simp, rfl, rfl⟩⟩
theorem ow_push {w : World} {base : Nat} {v : Value} {xs : List Int} (x : Int) (h : Ow w base v xs) (hb : base ≤ w.heap.size) (hl : xs.length ≤ 1000) :
    ∃ A n c w', (Builtin.append_ #[22, 22] 22 #[v, .slice (some ⟨w.heap.size, 0, none⟩) 1 1]).run Try.prog (w.alloc (.cells #[.int .i64 x] 3)) = .ok (.slice (some A) n c) w' ∧ Ow w' base (.slice (some A) n c) (xs ++ [x]) ∧ Below base w w' := by
  obtain ⟨i0, hi, hz0, hz1, hz2⟩ := info_parts info3'
  have hn2 : ∀ j u, ([.int .i64 x] : List Value)[j]? = some u → (w.alloc (.cells #[.int .i64 x] 3)).cell? ((⟨w.heap.size, 0, none⟩ : Addr).add j) = some u := by
    intro j u hj
    rw [addr_add, Nat.zero_add, World.cell?_alloc_at _ _ _ _ rfl]
    simpa using hj
  obtain ⟨v', w', hrun, r1, r2, r3⟩ := run_append_own (P := Try.prog) (w.alloc (.cells #[.int .i64 x] 3)) base 22 22 3 i0 (.int .i64 0) 1 8 Try.underlying22 hi hz0 hz1 hz2 rfl (by decide) v xs.length (xs.map (Value.int .i64)) (h.alloc _) ⟨w.heap.size, 0, none⟩ 1 1 [.int .i64 x] rfl hn2 (by simp [Value.oneCell']) (by simp [maxLen]; omega) (by omega) (by simp; omega)
  have hB : Below base w w' := ((Below.refl _ w).alloc hb _).grown r2 (by simp; omega) (fun k hk => (h.lt k hk).1)
  have ho : Ow w' base v' (xs ++ [x]) := by unfold Ow; rw [List.length_append, List.map_append]; exact r1
  rcases ho.2 with ⟨_, h0⟩ | ⟨g, cap, cur, rfl, _⟩
  · simp at h0
  · exact ⟨_, _, _, w', hrun, ho, hB⟩
end Go.Proofs.Ytplafgmceggcnaa
