/- What is proved: News. No condition beyond those in each statement. -/
import Derived.Test.YtahjgdikjaakbaaXi
import Derived.Test.YtahjgdikjaakbaaXh
namespace Go.Proofs.Ytahjgdikjaakbaa
open Go.RowKit

theorem pl_same {f : Fr} {T R : Nat} {t : TS} {w : World} {k : Nat} (h : Pl f T R t t w) (O : Ok t k) (hk : k ≤ 10000) : Calls Try.prog 29 #[.pointer (some ⟨T, 0, none⟩), .pointer (some ⟨R, 0, none⟩)] w fun e w' => e = .returned (.bool true) ∧ Below w.heap.size w w' := by
  obtain ⟨X, l, m, h⟩ := h
  exact shows_calls h.tw h.rl h.fl (h.fl.le O hk) O hk
theorem inB_yes {v lo hi : Int} (h : lo ≤ v ∧ v ≤ hi) : inB v lo hi = true := by
  unfold inB
  rw [decide_eq_true h.1, decide_eq_true h.2]; rfl
theorem inB_no {v lo hi : Int} (h : ¬ (lo ≤ v ∧ v ≤ hi)) : inB v lo hi = false := by
  unfold inB
  by_cases h1 : lo ≤ v
  · rw [decide_eq_true h1, decide_eq_false (fun h2 => h ⟨h1, h2⟩)]; rfl
  · rw [decide_eq_false h1]; rfl
set_option maxRecDepth 100000 in
set_option maxHeartbeats 4000000 in
theorem news_calls (n h : Int) (w : World) :
    Calls Try.prog 8 #[.int .i64 n, .int .i64 h] w fun e w' => e = .returned (.bool true) ∧ Below w.heap.size w w' := by
  have CL : Hid (∀ w1, Calls Try.prog 14 #[] w1 fun e w' => e = .returned (.bool true) ∧ Below w1.heap.size w1 w') := fun w1 => lives_calls w1
  by_cases hn : 1 ≤ n ∧ n ≤ 6
  · by_cases hh : 0 ≤ h ∧ h < n
    · obtain ⟨N, rfl⟩ : ∃ N : Nat, n = N := ⟨n.toNat, by omega⟩
      obtain ⟨H, rfl⟩ : ∃ H : Nat, h = H := ⟨h.toNat, by omega⟩
      have hN : 1 ≤ N ∧ N ≤ 6 := by omega
      have hH : H < N := by omega
      have C1 : Hid (∀ w1, Calls Try.prog 19 #[.int .i64 N, .int .i64 1, .int .i64 6] w1 fun e w' => e = .returned (.bool true) ∧ w1 = w') := fun w1 => by
        have := in_calls N 1 6 w1
        rwa [inB_yes hn] at this
      have C2 : Hid (∀ w1, Calls Try.prog 19 #[.int .i64 H, .int .i64 0, .int .i64 ((N : Int) - 1)] w1 fun e w' => e = .returned (.bool true) ∧ w1 = w') := fun w1 => by
        have := in_calls H 0 ((N : Int) - 1) w1
        rwa [inB_yes (by omega)] at this
      have wn : IntKind.i64.wrap ((N : Int) - 1) = (N : Int) - 1 := IntWalk.i64_in _ (by omega)
      have CT := Lib.hid (tw_new w hN hH)
      have CR : Hid (∀ T w1 X, Tw w1 T (TS.made N H) X → (∀ g, X g → w.heap.size ≤ g) → Below w.heap.size w w1 → Calls Try.prog 30 #[.int .i64 N, .int .i64 H] w1 fun e w' => ∃ R, e = .returned (.pointer (some ⟨R, 0, none⟩)) ∧ Pl (Fr.of w) T R (TS.made N H) (TS.made N H) w') := fun T w1 X h1 h2 h3 => by
        refine (refnew_low (h := H) w1 hN).mono ?_
        rintro e w' ⟨R, m, rfl, k1, k2, k3⟩
        exact ⟨R, rfl, pl_new w h1 h2 h3 R m k1 k2 k3⟩
      have HO : Hid (Ok (TS.made N H) 0) := Ok.made hN hH
      clear hn hh hN hH
      go_enter Try.func8, Try.ntmps8
      go_wp2_with fail
      refine CT.out.mono ?_
      rintro e w1 ⟨T, X, rfl, h1, h2, h3⟩
      have H1 := Lib.hid (CR.out T w1 X h1 h2 h3)
      clear h1 h2 h3 CT CR
      go_wp2_with fail
      refine (C1.out _).mono ?_
      rintro e w2 ⟨rfl, rfl⟩
      go_wp2_with fail
      refine (C2.out _).mono ?_
      rintro e w2 ⟨rfl, rfl⟩
      go_wp2_with fail
      refine H1.out.mono ?_
      rintro e w2 ⟨R, rfl, h2⟩
      have H2 := Lib.hid (And.intro (pl_same h2 HO.out (by omega)) h2.kp)
      clear h2 H1
      go_wp2_with fail
      refine H2.out.1.mono ?_
      rintro e w3 ⟨rfl, hb⟩
      have H3 : Hid (Below w.heap.size w w3) := Below.trans ⟨H2.out.2.os, H2.out.2.tape, H2.out.2.output, H2.out.2.size, H2.out.2.block⟩ (hb.mono H2.out.2.size)
      clear hb H2
      go_wp2_with fail
      refine (CL.out _).mono ?_
      rintro e w4 ⟨rfl, hb⟩
      have H4 := Lib.hid (H3.out.trans (hb.mono H3.out.size))
      clear hb H3
      go_wp2_with fail
      go_ret
      exact ⟨rfl, H4.out⟩
    · have CT := Lib.hid (new_bad (n := n) (h := h) w (fun e => hh e.2))
      have C1 : Hid (∀ w1, Calls Try.prog 19 #[.int .i64 n, .int .i64 1, .int .i64 6] w1 fun e w' => e = .returned (.bool true) ∧ w1 = w') := fun w1 => by
        have := in_calls n 1 6 w1
        rwa [inB_yes hn] at this
      have C2 : Hid (∀ w1, Calls Try.prog 19 #[.int .i64 h, .int .i64 0, .int .i64 (n - 1)] w1 fun e w' => e = .returned (.bool false) ∧ w1 = w') := fun w1 => by
        have := in_calls h 0 (n - 1) w1
        rwa [inB_no (by omega)] at this
      have wn : IntKind.i64.wrap (n - 1) = n - 1 := IntWalk.i64_in _ (by omega)
      clear hn hh
      go_enter Try.func8, Try.ntmps8
      go_wp2_with fail
      refine CT.out.mono ?_
      rintro e w1 ⟨rfl, rfl⟩
      go_wp2_with fail
      refine (C1.out _).mono ?_
      rintro e w2 ⟨rfl, rfl⟩
      go_wp2_with fail
      refine (C2.out _).mono ?_
      rintro e w2 ⟨rfl, rfl⟩
      go_wp2_with fail
      refine (CL.out _).mono ?_
      rintro e w4 ⟨rfl, hb⟩
      have H4 := Lib.hid hb
      clear hb
      go_wp2_with fail
      go_ret
      exact ⟨rfl, H4.out⟩
  · have CT := Lib.hid (new_bad (n := n) (h := h) w (fun e => hn e.1))
    have C1 : Hid (∀ w1, Calls Try.prog 19 #[.int .i64 n, .int .i64 1, .int .i64 6] w1 fun e w' => e = .returned (.bool false) ∧ w1 = w') := fun w1 => by
      have := in_calls n 1 6 w1
      rwa [inB_no hn] at this
    clear hn
    go_enter Try.func8, Try.ntmps8
    go_wp2_with fail
    refine CT.out.mono ?_
    rintro e w1 ⟨rfl, rfl⟩
    go_wp2_with fail
    refine (C1.out _).mono ?_
    rintro e w2 ⟨rfl, rfl⟩
    go_wp2_with fail
    refine (CL.out _).mono ?_
    rintro e w4 ⟨rfl, hb⟩
    have H4 := Lib.hid hb
    clear hb
    go_wp2_with fail
    go_ret
    exact ⟨rfl, H4.out⟩
end Go.Proofs.Ytahjgdikjaakbaa
