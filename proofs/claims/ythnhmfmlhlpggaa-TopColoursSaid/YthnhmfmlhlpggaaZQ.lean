/- What is proved: the number of a pair. No condition beyond those in each statement. -/
import Derived.Test.YthnhmfmlhlpggaaZP
import Derived.Test.YthnhmfmlhlpggaaZN
namespace Go.Proofs.Ythnhmfmlhlpggaa
open Go.RowKit Kn
set_option maxRecDepth 100000

/-- The sum that Pair has made. -/
def prS (n : Nat) : Nat → Int
  | 0 => 0
  | x + 1 => prS n x + ((n : Int) - 1 - x)
theorem prS_place : ∀ n, n ≤ 8 → ∀ a, a < 8 → ∀ b, b < 8 → a < b → b < n → prS n a + b - a - 1 = Pt.placeZ (n : Nat) (a : Nat) (b : Nat) := by decide +kernel
theorem prS_bd8 : ∀ n, n ≤ 8 → ∀ x, x ≤ 8 → -64 ≤ prS n x ∧ prS n x ≤ 64 := by decide +kernel
theorem prS_bd (n : Nat) (hn : n ≤ 8) (x : Nat) (hx : x ≤ 8) : -64 ≤ prS n x ∧ prS n x ≤ 64 := prS_bd8 n hn x hx
set_option maxHeartbeats 1000000 in
theorem pair_calls (n a b : Nat) (hn : n ≤ 8) (hab : a < b) (hb : b < n) (w : World) : Calls Try.prog 6 #[.int .i64 n, .int .i64 a, .int .i64 b] w fun e w' => e = .returned (.int .i64 (Pt.placeZ (n : Nat) (a : Nat) (b : Nat))) ∧ w = w' := by
  have HP := Lib.hid (prS_place n hn a (by omega) b (by omega) hab hb)
  have HBD := Lib.hid (prS_bd n hn)
  go_enter Try.func6, Try.ntmps6
  go_wp2_with fail
  go_loop [7, 8] (fun v7 v8 => ∃ x : Nat, v8 = .int .i64 x ∧ x ≤ a ∧ v7 = .int .i64 (prS n x)) (fun _ v8 => a - (intOf v8).toNat)
  case atStart => exact ⟨0, rfl, Nat.zero_le _, rfl⟩
  case round =>
    obtain ⟨x, rfl, hx, rfl⟩ := hrel
    have b1 := HBD.out x (by omega)
    have b2 := HBD.out (x + 1) (by omega)
    have HS : Hid (prS n (x + 1) = prS n x + ((n : Int) - 1 - x)) := rfl
    rw [HS.out] at b2
    obtain ⟨S, hS⟩ : ∃ S, S = prS n x := ⟨_, rfl⟩
    rw [← hS] at b1 b2 HS
    by_cases hlt : x < a
    · have w1 : IntKind.i64.wrap ((n : Int) - 1) = (n : Int) - 1 := IntWalk.i64_in _ (by omega)
      have w2 : IntKind.i64.wrap ((n : Int) - 1 - x) = (n : Int) - 1 - x := IntWalk.i64_in _ (by omega)
      have w3 : IntKind.i64.wrap (S + ((n : Int) - 1 - x)) = S + ((n : Int) - 1 - x) := IntWalk.i64_in _ (by omega)
      rw [← hS]
      clear hS
      go_wp2_with fail
      go_round
      case rel => exact ⟨x + 1, by go_num, by omega, by rw [HS.out]⟩
      case measure => simp [intOf]; omega
    · have he : x = a := by omega
      subst he
      rw [← hS] at HP ⊢
      have w1 : IntKind.i64.wrap (S + b) = S + b := IntWalk.i64_in _ (by omega)
      have w2 : IntKind.i64.wrap (S + b - x) = S + b - x := IntWalk.i64_in _ (by omega)
      have w3 : IntKind.i64.wrap (S + b - x - 1) = S + b - x - 1 := IntWalk.i64_in _ (by omega)
      clear hS
      go_wp2_with fail
      go_ret
      exact ⟨ret_int HP.out, rfl⟩
end Go.Proofs.Ythnhmfmlhlpggaa
