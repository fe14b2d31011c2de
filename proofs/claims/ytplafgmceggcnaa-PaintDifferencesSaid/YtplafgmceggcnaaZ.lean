/- What is proved: between, and how Avoid ends. No condition beyond those in each statement. -/
import Derived.Test.YtplafgmceggcnaaY
import Derived.Test.YtplafgmceggcnaaPa
namespace Go.Proofs.Ytplafgmceggcnaa
open Go.RowKit

def betw (x lo hi : Int) : Int := lo + x % (hi - lo + 1)
theorem betw_in {x lo hi : Int} (h : lo ≤ hi) : lo ≤ betw x lo hi ∧ betw x lo hi ≤ hi := by
  unfold betw
  have h1 := Int.emod_nonneg x (by omega : hi - lo + 1 ≠ 0)
  have h2 := Int.emod_lt_of_pos x (by omega : 0 < hi - lo + 1)
  omega
theorem u8_in {x : Int} (h : (Lit.int .u8 x).wf = true) : 0 ≤ x ∧ x ≤ 255 := by
  simp [Lit.wf, IntKind.min, IntKind.max, IntKind.signed, IntKind.bits] at h
  omega
theorem between_calls (x lo hi : Int) (w : World) (hx : 0 ≤ x ∧ x ≤ 255) (h0 : 0 ≤ lo) (h1 : lo ≤ hi) (h2 : hi ≤ 100) :
    Calls Try.prog 33 #[.int .u8 x, .int .i64 lo, .int .i64 hi] w fun e w' => e = .returned (.int .i64 (betw x lo hi)) ∧ w = w' := by
  have hb := betw_in (x := x) h1
  have wm : Int.tmod x (hi - lo + 1) = x % (hi - lo + 1) := Int.tmod_eq_emod_of_nonneg hx.1
  have hz : (hi - lo + 1 == (0 : Int)) = false := by rw [beq_eq_false_iff_ne]; omega
  have HB : Hid (lo + x % (hi - lo + 1) = betw x lo hi) := rfl
  obtain ⟨r, hr⟩ : ∃ r, r = x % (hi - lo + 1) := ⟨_, rfl⟩
  have hr1 := Int.emod_nonneg x (by omega : hi - lo + 1 ≠ 0)
  have hr2 := Int.emod_lt_of_pos x (by omega : 0 < hi - lo + 1)
  rw [← hr] at wm hr1 hr2 HB
  clear hr hb
  go_enter Try.func33, Try.ntmps33
  go_wp2_with fail
  go_ret
  exact ⟨ret_int HB.out, rfl⟩

/-- How Avoid ends. -/
theorem avoidR_ends (m : Nat) (k l : Int) (hr : (1 ≤ m ∧ m ≤ 8) ∧ (2 ≤ k ∧ k ≤ 4) ∧ (2 ≤ l ∧ l ≤ 4)) :
    ((avoidL m k l).head?.isSome = true → ∃ xs, AvoidR m k l = .ok xs ∧ xs.length = npairs m ∧ Free m k l xs) ∧ ((avoidL m k l).head?.isSome = false → AvoidR m k l = .error 5) := by
  rw [AvoidR_ok hr]
  constructor
  · intro h
    cases hq : (avoidL m k l).head? with
    | none => rw [hq] at h; cases h
    | some xs =>
      have hf := (mem_avoidL (by omega) hr.2.1.1 hr.2.2.1).1 (List.mem_of_mem_head? hq)
      exact ⟨xs, rfl, hf.1, hf⟩
  · intro h
    cases hq : (avoidL m k l).head? with
    | none => rfl
    | some xs => rw [hq] at h; cases h
end Go.Proofs.Ytplafgmceggcnaa
