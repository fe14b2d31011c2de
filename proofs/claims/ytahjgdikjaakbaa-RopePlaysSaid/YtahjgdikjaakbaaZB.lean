/- What is proved: RopeFew. No condition beyond those in each statement. -/
import Derived.Test.YtahjgdikjaakbaaPf
import Derived.Test.YtahjgdikjaakbaaAt
namespace Go.Proofs.Ytahjgdikjaakbaa
open Go.RowKit

theorem on_act {w0 : Fr} {w : World} {T : Nat} {t : TS} {k : Nat} (h : On w0 T t w) (O : Ok t k) (hk : k ≤ 10000) (x : Int) (hx : 0 ≤ x ∧ x ≤ 255) {n : Nat} (hn : t.n = n) : Calls Try.prog 15 #[.pointer (some ⟨T, 0, none⟩), .int .i64 n, .int .u8 x] w fun e w' => e = .returned (.bool (t.actB x)) ∧ On w0 T (t.act x) w' := by
  subst hn
  obtain ⟨X, h1, h2, h3⟩ := h
  exact (tw_act h1 O hk x hx).mono fun _ _ ⟨he, hs⟩ => ⟨he, On.step h2 h3 hs⟩
/-- A tower after i acts. -/
structure LawI (w : Fr) (T n i : Nat) (t : TS) (wr : World) : Prop where
  on : On w T t wr
  ok : Ok t i
  n : t.n = n
theorem LawI.act {w : Fr} {wr : World} {T n i : Nat} {t : TS} (L : LawI w T n i t wr) (hi : i ≤ 10000) (x : Int) (hx : 0 ≤ x ∧ x ≤ 255) : Calls Try.prog 15 #[.pointer (some ⟨T, 0, none⟩), .int .i64 n, .int .u8 x] wr fun e w' => e = .returned (.bool (t.actB x)) ∧ LawI w T n (i + 1) (t.act x) w' :=
  (on_act L.on L.ok hi x hx L.n).mono fun _ _ ⟨he, ho⟩ => ⟨he, ho, L.ok.act x, by rw [act_n]; exact L.n⟩
theorem LawI.below {w : Fr} {wr w' : World} {T n i : Nat} {t : TS} (L : LawI w T n i t wr) (hb : Below wr.heap.size wr w') : LawI w T n i t w' := ⟨L.on.below hb, L.ok, L.n⟩
def FewI (w : World) (T n : Nat) (v8 v9 : Value) (wr : World) : Prop := ∃ (i wn W : Nat) (t : TS), v8 = .int .i64 wn ∧ v9 = .int .i64 i ∧ wn ≤ i ∧ W ≤ wn ∧ Cnt t W ∧ LawI w T n i t wr
set_option maxHeartbeats 8000000 in
set_option maxRecDepth 100000 in
theorem few_calls (x y : Int) (A : Option Addr) (L c : Nat) (xs : List Int) (w : World) (hx : 0 ≤ x ∧ x ≤ 255) (hy : 0 ≤ y ∧ y ≤ 255) (hL : L = xs.length) (hA : RdU w A xs) (_hl : L ≤ c) (hc : c ≤ 9223372036854775807) (hxs : ∀ b ∈ xs, 0 ≤ b ∧ b ≤ 255) :
    Calls Try.prog 4 #[.agg #[.int .u8 x, .int .u8 y], .slice A L c] w fun e w' => e = .returned (.bool true) ∧ Below w.heap.size w w' := by
  obtain ⟨n, hn⟩ : ∃ n, n = mdN x := ⟨_, rfl⟩
  have CM : Hid (Calls Try.prog 13 #[.agg #[.int .u8 x, .int .u8 y]] (w.alloc (.cells #[.int .u8 x, .int .u8 y] 22)) fun e w' => ∃ T, e = .returned (.tuple #[.pointer (some ⟨T, 0, none⟩), .int .i64 n]) ∧ On w T (mdT x y) w') := by rw [hn]; exact tmade_calls w _ ((Below.refl _ _).alloc (Nat.le_refl _) _) x y hx hy
  have hn6 : 1 ≤ n ∧ n ≤ 6 := by rw [hn]; exact (md_ok x y).1
  have CL := Lib.hid (fun w1 => lives_calls w1)
  have HA := Lib.hid hA
  have HL := Lib.hid hL
  have HXS := Lib.hid hxs
  have HM : Hid (Ok (mdT x y) 0 ∧ (mdT x y).n = n ∧ Cnt (mdT x y) 0) := ⟨mdT_ok x y, hn.symm, Cnt.made⟩
  have hLc : (L : Int) ≤ 9223372036854775807 := by omega
  clear hA hL hxs hn
  go_enter Try.func4, Try.ntmps4
  go_wp2_with fail
  refine CM.out.mono ?_
  rintro e w1 ⟨T, rfl, ho⟩
  have HO := Lib.hid ho
  clear ho CM
  go_wp2_with fail
  refine (CL.out _).mono ?_
  rintro e w2 ⟨rfl, hb⟩
  have HO2 := Lib.hid (HO.out.below hb)
  clear hb CL HO
  go_wp2_with fail
  go_loopw [7, 8] (fun v7 v8 wr => FewI w T n v7 v8 wr) (fun _ v8 _ => L - (intOf v8).toNat)
  case atStart => exact ⟨0, 0, 0, mdT x y, rfl, rfl, Nat.le_refl _, Nat.le_refl _, HM.out.2.2, HO2.out, HM.out.1, HM.out.2.1⟩
  case round =>
    obtain ⟨i, wn, W, t, rfl, rfl, hwi, hWw, hcnt, hlaw⟩ := hrel
    have HLAW := Lib.hid hlaw
    have HCNT := Lib.hid hcnt
    by_cases hcond : i < L ∧ i < 150
    · obtain ⟨h1, h2⟩ := hcond
      have hil : i < xs.length := by have := HL.out; omega
      obtain ⟨b, o, rfl, hb, hcell⟩ := HA.out.at i hil
      have d1 := (hlaw.on.bel.cell (p := ⟨b, o + i, none⟩) hb).trans hcell
      have hxi := HXS.out xs[i] (List.getElem_mem hil)
      obtain ⟨xi, hxi2⟩ : ∃ xi, xi = xs[i] := ⟨_, rfl⟩
      rw [← hxi2] at d1 hxi
      have CA := Lib.hid (hlaw.act (by omega) xi hxi)
      have HC2 := Lib.hid (hcnt.act hlaw.ok xi)
      have HOK := Lib.hid hlaw.ok
      have b1 : (0 : Int) ≤ i ∧ (i : Int) < L := by omega
      obtain ⟨r, hr⟩ : ∃ r, r = t.actB xi := ⟨_, rfl⟩
      rw [← hr] at CA HC2
      clear hlaw hcnt hcell hb hxi2 hxi hr
      cases r
      · go_wp2_with fail
        refine CA.out.mono ?_
        rintro e w3 ⟨rfl, hlaw⟩
        obtain ⟨W', hc1, hc2⟩ := HC2.out
        simp only [Bool.false_eq_true, if_false] at hc2
        have CS := Lib.hid (on_sent hlaw.on)
        have hs0 := hlaw.ok.2.s0
        have hfew := hc1.few hlaw.ok.1
        rw [hlaw.n] at hfew
        have hmul : (n : Int) * W' ≤ (n : Int) * wn := Int.mul_le_mul_of_nonneg_left (by omega) (by omega)
        have hmul2 : (n : Int) * wn ≤ 6 * 150 := Int.mul_le_mul (by omega) (by omega) (by omega) (by omega)
        have hmul3 : 0 ≤ (n : Int) * wn := Int.mul_nonneg (by omega) (by omega)
        obtain ⟨P, hP⟩ : ∃ P : Int, (n : Int) * wn = P := ⟨_, rfl⟩
        rw [hP] at hmul hmul2 hmul3
        obtain ⟨S, hS⟩ : ∃ S : Int, S = (t.act xi).sent := ⟨_, rfl⟩
        rw [← hS] at CS hs0 hfew
        have hSP : S ≤ P := by omega
        have HLAW2 := Lib.hid hlaw
        have HCN2 := Lib.hid hc1
        clear hlaw hc1 CA HC2 hfew hmul hS
        go_wp2_with fail
        refine CS.out.mono ?_
        rintro e w4 ⟨rfl, rfl⟩
        go_wp2_with fail
        go_roundw
        case rel => exact ⟨i + 1, wn, W', _, rfl, by go_num, by omega, by omega, HCN2.out, HLAW2.out⟩
        case measure => simp [intOf]; omega
      · go_wp2_with fail
        refine CA.out.mono ?_
        rintro e w3 ⟨rfl, hlaw⟩
        obtain ⟨W', hc1, hc2⟩ := HC2.out
        simp only [if_true] at hc2
        have CS := Lib.hid (on_sent hlaw.on)
        have hs0 := hlaw.ok.2.s0
        have hfew := hc1.few hlaw.ok.1
        rw [hlaw.n] at hfew
        have hmul : (n : Int) * W' ≤ (n : Int) * ((wn : Int) + 1) := Int.mul_le_mul_of_nonneg_left (by omega) (by omega)
        have hmul2 : (n : Int) * ((wn : Int) + 1) ≤ 6 * 151 := Int.mul_le_mul (by omega) (by omega) (by omega) (by omega)
        have hmul3 : 0 ≤ (n : Int) * ((wn : Int) + 1) := Int.mul_nonneg (by omega) (by omega)
        obtain ⟨P, hP⟩ : ∃ P : Int, (n : Int) * ((wn : Int) + 1) = P := ⟨_, rfl⟩
        rw [hP] at hmul hmul2 hmul3
        obtain ⟨S, hS⟩ : ∃ S : Int, S = (t.act xi).sent := ⟨_, rfl⟩
        rw [← hS] at CS hs0 hfew
        have hSP : S ≤ P := by omega
        have HLAW2 := Lib.hid hlaw
        have HCN2 := Lib.hid hc1
        clear hlaw hc1 CA HC2 hfew hmul hS
        go_wp2_with fail
        refine CS.out.mono ?_
        rintro e w4 ⟨rfl, rfl⟩
        go_wp2_with fail
        go_roundw
        case rel => exact ⟨i + 1, wn + 1, W', _, by go_num, by go_num, by omega, by omega, HCN2.out, HLAW2.out⟩
        case measure => simp [intOf]; omega
    · clear hlaw hcnt
      by_cases h1 : i < L
      · have h2 : ¬ i < 150 := fun h => hcond ⟨h1, h⟩
        clear hcond
        go_wp2_with fail
        go_ret
        exact ⟨rfl, HLAW.out.on.bel⟩
      · clear hcond
        go_wp2_with fail
        go_ret
        exact ⟨rfl, HLAW.out.on.bel⟩
end Go.Proofs.Ytahjgdikjaakbaa
