/- What is proved: Has and Perm. No condition beyond those in each statement. -/
import Derived.Test.YtahjgdikjaakbaaB
namespace Go.Proofs.Ytahjgdikjaakbaa
open Go.RowKit

theorem Rd.take {w : World} {A : Option Addr} {xs : List Int} (h : Rd w A xs) (k : Nat) : Rd w A (xs.take k) := fun hne => by
  obtain ⟨b, o, e, hb, hcl⟩ := h (fun h => by subst h; simp at hne)
  exact ⟨b, o, e, hb, fun i hi => by
    have hi' : i < xs.length := by rw [List.length_take] at hi; omega
    rw [hcl i hi', List.getElem_take]⟩

theorem has_calls (A : Option Addr) (n c : Nat) (xs : List Int) (v : Int) (w : World) (hn : n = xs.length) (hA : Rd w A xs) (hl : n ≤ c) (hc : c ≤ 9223372036854775807) :
    Calls Try.prog 20 #[.slice A n c, .int .i64 v] w fun e w' => e = .returned (.bool (xs.any fun u => u == v)) ∧ w = w' := by
  have HN := Lib.hid hn
  have HA := Lib.hid hA
  clear hn hA
  have hnn : (n : Int) ≤ 9223372036854775807 := by omega
  go_enter Try.func20, Try.ntmps20
  go_wp2_with fail
  go_loop [5] (fun q => ∃ i : Nat, q = .int .i64 i ∧ i ≤ n ∧ Hid (((xs.take i).any fun u => u == v) = false)) (fun q => n - (intOf q).toNat)
  case atStart => exact ⟨0, rfl, Nat.zero_le _, rfl⟩
  case round =>
    obtain ⟨i, rfl, hi, HG⟩ := hrel
    by_cases hlt : i < n
    · have hil : i < xs.length := by have := HN.out; omega
      obtain ⟨b, o, rfl, hb, hcell⟩ := HA.out.at i hil
      cases q : (xs[i]'hil == v)
      · have HQ := Lib.hid q
        go_wp2_with fail
        go_round
        case rel => exact ⟨i + 1, by go_num, by omega, any_take_succ (p := fun u => u == v) hil HG.out HQ.out⟩
        case measure => simp [intOf]; omega
      · have HQ := Lib.hid q
        go_wp2_with fail
        go_ret
        exact ⟨ret_bool (any_at (p := fun u => u == v) hil HQ.out).symm, rfl⟩
    · have HE : Hid ((xs.any fun u => u == v) = false) := by have := HG.out; rwa [show i = xs.length by have := HN.out; omega, List.take_length] at this
      go_wp2_with fail
      go_ret
      exact ⟨ret_bool HE.out.symm, rfl⟩

end Go.Proofs.Ytahjgdikjaakbaa
