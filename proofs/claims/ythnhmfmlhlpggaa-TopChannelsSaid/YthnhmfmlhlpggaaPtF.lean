/- What is proved: pairs and Clique (contracts of functions of paint, and what they need). No condition beyond those in each statement. -/
import Derived.Test.YthnhmfmlhlpggaaPtE
namespace Go.Proofs.Ythnhmfmlhlpggaa.Pt
open Go.RowKit
set_option maxRecDepth 100000

def npairs (n : Nat) : Nat := n * (n - 1) / 2

set_option maxHeartbeats 400000 in
theorem pairs_calls (n : Nat) (hn : n ≤ 8) (w : World) : Calls Try.prog 26 #[.int .i64 n] w fun e w' => e = .returned (.int .i64 ((npairs n : Nat) : Int)) ∧ w = w' := by
  have h : ∀ n : Nat, n ≤ 8 → Calls Try.prog 26 #[.int .i64 n] w fun e w' => e = .returned (.int .i64 ((npairs n : Nat) : Int)) ∧ w = w' := by
    intro n hn
    have : n = 0 ∨ n = 1 ∨ n = 2 ∨ n = 3 ∨ n = 4 ∨ n = 5 ∨ n = 6 ∨ n = 7 ∨ n = 8 := by omega
    clear hn
    rcases this with rfl | rfl | rfl | rfl | rfl | rfl | rfl | rfl | rfl
    all_goals
      go_enter Try.func26, Try.ntmps26
      go_wp2
      go_ret
      exact ⟨rfl, rfl⟩
  exact h n hn

theorem placeZ_lt {n : Nat} (hn : n ≤ 8) {cs : List Int} (hl : cs.length = npairs n) (u v : Int) (h0 : 0 ≤ u) (h1 : u < v) (h2 : v < n) : placeZ n u v < cs.length := by
  obtain ⟨a, rfl⟩ := Int.eq_ofNat_of_zero_le h0
  obtain ⟨b, rfl⟩ := Int.eq_ofNat_of_zero_le (by omega : 0 ≤ v)
  have ha : a < 8 := by omega
  have hb : b < 8 := by omega
  have key : ∀ n, n ≤ 8 → ∀ a, a < 8 → ∀ b, b < 8 → a < b → b < n → placeZ (n : Nat) (a : Nat) (b : Nat) < (npairs n : Nat) := by decide
  rw [hl]
  exact key n hn a ha b hb (by omega) (by omega)

theorem clique_calls' (n : Nat) (hn : n ≤ 8) (cs : List Int) (color : Int) (A : Option Addr) (m cap : Nat) (hm : m = cs.length) (hcap : m ≤ cap) (hcl : ∀ u v : Int, 0 ≤ u → u < v → v < n → placeZ n u v < cs.length) (k : Nat) (hk : 0 < k) (hk2 : k ≤ 100) (w : World) (hA : Rd w A cs) :
    Calls Try.prog 27 #[.int .i64 n, .slice A m cap, .int .i64 color, .int .i64 k, .slice none 0 0] w fun e w' =>
      ∃ v, e = .returned v ∧ OptSl w' v (cliqueF (okP cs n color) n k []) ∧ Below w.heap.size w w' := by
  subst hm
  exact clique_calls n hn cs color A cap hcap hcl k [] k none 0 0 w rfl (by simp) (by simpa using hk) (by simpa using hk2) ⟨Nat.zero_le _, by simp⟩ hA (fun h => absurd rfl h) (Nat.le_refl _) (by omega) (fun _ => rfl)

def CliqueR (n : Int) (cs : List Int) (color k : Int) : Option (List Int) × Int :=
  if decide (n < 1) || decide (n > 8) || decide (color < 0) || decide (color > 1) || decide (k < 1) || decide (k > 4) then (none, 1)
  else if !(decide (cs.length = npairs n.toNat) && inRange 2 cs) then (none, 2)
  else (cliqueF (okP cs n.toNat color) n.toNat k.toNat [], foundR (cliqueF (okP cs n.toNat color) n.toNat k.toNat []))

set_option maxHeartbeats 1000000 in
theorem Clique_calls (n color k : Int) (A : Option Addr) (m c : Nat) (cs : List Int) (w : World) (hm : m = cs.length) (hA : Rd w A cs) (hl : m ≤ c) (hc : c ≤ 9223372036854775807) :
    Calls Try.prog 7 #[.int .i64 n, .slice A m c, .int .i64 color, .int .i64 k] w (OptR w (CliqueR n cs color k)) := by
  have HN := Lib.hid hm
  have HA := Lib.hid hA
  clear hm hA
  by_cases hbad : n < 1 ∨ 8 < n ∨ color < 0 ∨ 1 < color ∨ k < 1 ∨ 4 < k
  · have HR : Hid (CliqueR n cs color k = (none, 1)) := by
      show CliqueR n cs color k = _
      unfold CliqueR
      rw [if_pos (by simpa [or_assoc] using hbad)]
    go_enter Try.func7, Try.ntmps7
    go_wp2_with fail
    all_goals
      go_ret2
      exact OptR.mk HR.out rfl (Below.refl _ _)
  · have hn1 : 1 ≤ n ∧ n ≤ 8 := by omega
    have hc1 : 0 ≤ color ∧ color ≤ 1 := by omega
    have hk1 : 1 ≤ k ∧ k ≤ 4 := by omega
    clear hbad
    obtain ⟨n, rfl⟩ := Int.eq_ofNat_of_zero_le (by omega : 0 ≤ n)
    obtain ⟨k, rfl⟩ := Int.eq_ofNat_of_zero_le (by omega : 0 ≤ k)
    have HR0 : Hid (CliqueR n cs color k = if !(decide (cs.length = npairs n) && inRange 2 cs) then (none, 2) else (cliqueF (okP cs n color) n k [], foundR (cliqueF (okP cs n color) n k []))) := by
      show CliqueR n cs color k = _
      unfold CliqueR
      rw [if_neg (by simp; omega)]
      rfl
    have qT : ∀ (w : World) (a : Option Addr) (n c n' c' : Nat), (binOp .eql 27 (.slice a n c) (.slice none n' c')).run Try.prog w = .ok (.bool a.isNone) w := fun w a n c n' c' => Lib.run_eql_slice_nil w _ _ a n c n' c' Try.underlying27
    go_enter Try.func7, Try.ntmps7
    go_wp2_with fail
    refine (pairs_calls n (by omega) _).mono ?_
    rintro e w1 ⟨rfl, rfl⟩
    go_wp2_with fail
    refine (colored_calls _ m c cs _ 2 _ HN.out HA.out hl hc).mono ?_
    cases hok : (decide ((m : Int) = ((npairs n : Nat) : Int)) && inRange 2 cs)
    · rintro e w2 ⟨rfl, hB⟩
      have HB := Lib.hid hB
      have HOK := Lib.hid hok
      clear hB hok
      go_wp2_with fail
      go_ret2
      refine OptR.mk (q := none) ?_ rfl HB.out
      rw [HR0.out, if_pos]
      have := HOK.out
      rw [HN.out] at this
      simp only [Int.natCast_inj] at this
      rw [this]; rfl
    · rintro e w2 ⟨rfl, hB⟩
      have HB := Lib.hid hB
      have HOK : Hid (cs.length = npairs n ∧ inRange 2 cs = true) := by
        rw [HN.out] at hok
        rw [Bool.and_eq_true, decide_eq_true_eq] at hok
        exact ⟨by omega, hok.2⟩
      clear hB hok
      go_wp2_with fail
      refine (clique_calls' n (by omega) cs color A m c HN.out hl (fun u v => placeZ_lt (by omega) HOK.out.1 u v) k (by omega) (by omega) _ (HA.out.below HB.out)).mono ?_
      rintro e w3 ⟨v, rfl, ho, hB3⟩
      have HB3 := Lib.hid (HB.out.trans (hB3.mono HB.out.size))
      clear hB3
      cases hr : cliqueF (okP cs n color) n k [] with
      | none =>
        rw [hr] at ho
        obtain rfl : v = .slice none 0 0 := ho
        have HQ := Lib.hid hr
        clear hr
        go_wp2_with fail
        go_ret2
        refine OptR.mk (q := none) ?_ rfl HB3.out
        rw [HR0.out, if_neg (by rw [HOK.out.1, HOK.out.2]; simp), HQ.out]; rfl
      | some r =>
        rw [hr] at ho
        obtain ⟨⟨a, m', c', rfl⟩, hs⟩ := ho
        have HQ := Lib.hid hr
        have HS := Lib.hid hs
        clear hr hs
        go_wp2_with fail
        go_ret2
        refine OptR.mk (q := some r) ?_ ⟨⟨_, _, _, rfl⟩, HS.out⟩ HB3.out
        rw [HR0.out, if_neg (by rw [HOK.out.1, HOK.out.2]; simp), HQ.out]; rfl
end Go.Proofs.Ythnhmfmlhlpggaa.Pt
