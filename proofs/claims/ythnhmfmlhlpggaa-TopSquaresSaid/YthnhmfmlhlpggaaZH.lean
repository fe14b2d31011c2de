/- What is proved: TopSquares' law. No condition beyond those in each statement. -/
import Derived.Test.YthnhmfmlhlpggaaZG
import Derived.Test.YthnhmfmlhlpggaaZ
import Derived.Deep.RegionHeld3
namespace Go.Proofs.Ythnhmfmlhlpggaa
open Go.RowKit Go.Shelf
set_option maxRecDepth 100000

def wsL (k : Nat) : List Int := (List.range k).map fun j : Nat => ((j : Int) + 1) * ((j : Int) + 1)
theorem wsL_succ (k : Nat) : wsL k ++ [((k : Int) + 1) * ((k : Int) + 1)] = wsL (k + 1) := by
  unfold wsL; rw [List.range_succ, List.map_append]; rfl
theorem wsL_len (k : Nat) : (wsL k).length = k := by simp [wsL]
theorem wsL_12 : wsL 12 = ws12 := by decide
def WI (w : World) (v8 v9 : Value) (wr : World) : Prop := ∃ k : Nat, v9 = .int .i64 ((k : Int) + 1) ∧ k ≤ 12 ∧ Hid (Ow wr w.heap.size v8 (wsL k)) ∧ Hid (Below w.heap.size w wr)

theorem four_in (n : Nat) (h1 : 1 ≤ n) (h2 : n ≤ 577) (w : World) : Calls Try.prog 11 #[.int .i64 n] w fun e w' => ∃ (A : Addr) (m : Nat) (a b c d : Nat), e = .returned (.tuple #[.slice (some A) 4 m, .int .i64 0]) ∧ 4 ≤ m ∧ m ≤ 9223372036854775807 ∧ Rd w' (some A) [(a : Int), (b : Int), (c : Int), (d : Int)] ∧
    (a * a + b * b + c * c + d * d = n ∧ a ≤ 24 ∧ b ≤ 24 ∧ c ≤ 24 ∧ d ≤ 24) ∧ (fitB [(a : Int), (b : Int), (c : Int), (d : Int)] 4 = true → (subF ws12 n).isSome = true) ∧ Below w.heap.size w w' := by
  refine (four_calls n (by omega) w).mono ?_
  rintro e w' ⟨r, v, rfl, hr, ho, hb⟩
  obtain ⟨a, b, c, d, hs, q1, q2, q3, q4, q5, q6⟩ := four_facts h1 h2 hr
  rw [hs] at ho
  obtain ⟨⟨A, k, m, rfl⟩, hsl⟩ := ho
  obtain ⟨A', k', m', e, hk, h3, h4, h5⟩ := hsl.parts
  cases e
  subst hk
  exact ⟨A, m, a, b, c, d, rfl, h3, h4, h5, ⟨q1, q2, q3, q4, q5⟩, q6, hb⟩

theorem three_in (n : Nat) (h1 : 1 ≤ n) (h2 : n ≤ 577) (w : World) : Calls Try.prog 12 #[.int .i64 n] w fun e w' => ∃ (A : Option Addr) (k m : Nat) (q : Int) (l : List Int), e = .returned (.tuple #[.slice A k m, .int .i64 q]) ∧ (q = 0 ∨ q = 5) ∧ k = l.length ∧ k ≤ 3 ∧ k ≤ m ∧ m ≤ 9223372036854775807 ∧ Rd w' A l ∧
    (fitB l k = true → (subF ws12 n).isSome = true) ∧ Below w.heap.size w w' := by
  refine (three_calls n (by omega) w).mono ?_
  rintro e w' ⟨r, v, rfl, hr, ho, hb⟩
  cases hs : sqF 3 n r with
  | none =>
    rw [hs] at ho
    cases ho
    exact ⟨none, 0, 0, 5, [], rfl, .inr rfl, rfl, by omega, by omega, by omega, fun h => absurd rfl h, fun h => absurd h (by decide), hb⟩
  | some l =>
    obtain ⟨q1, q2⟩ := three_facts h1 h2 hr l hs
    rw [hs] at ho
    obtain ⟨⟨A, k, m, rfl⟩, hsl⟩ := ho
    obtain ⟨A', k', m', e, hk, h3, h4, h5⟩ := hsl.parts
    cases e
    rw [q1] at hk
    subst hk
    exact ⟨some A, 3, m, 0, l, rfl, .inl rfl, q1.symm, by omega, h3, h4, h5, q2, hb⟩

theorem sub_in (n : Nat) (A : Option Addr) (c : Nat) (hc1 : 12 ≤ c) (hc2 : c ≤ 9223372036854775807) (w : World) (hA : Rd w A ws12) : Calls Try.prog 13 #[.slice A 12 c, .int .i64 n] w fun e w' => ∃ (B : Option Addr) (k m : Nat) (q : Int) (xs : List Int), e = .returned (.tuple #[.slice B k m, .int .i64 q]) ∧ ((q = 0 ∧ sumI ws12 xs = n) ∨ (q = 5 ∧ (subF ws12 n).isSome = false ∧ xs = [])) ∧ k = xs.length ∧ k ≤ m ∧ m ≤ 9223372036854775807 ∧ Rd w' B xs ∧
    (∀ x ∈ xs, 0 ≤ x ∧ x < 12) ∧ Below w.heap.size w w' := by
  refine (Subset_calls ws12 ws12_ok A 12 c n (by omega) rfl hc1 hc2 w hA).mono ?_
  intro e w' h
  cases hs : subF ws12 n with
  | none =>
    rw [hs] at h
    obtain ⟨rfl, hb⟩ := h
    exact ⟨none, 0, 0, 5, [], rfl, .inr ⟨rfl, rfl, rfl⟩, rfl, by omega, by omega, fun h => absurd rfl h, fun _ h => absurd h (by simp), hb⟩
  | some p =>
    obtain ⟨xs, s⟩ := p
    obtain ⟨rfl, hg⟩ := subF_good hs
    rw [hs] at h
    obtain ⟨B, k, m, rfl, h1, h2, h3, h4, hb⟩ := h
    exact ⟨B, k, m, 0, xs, rfl, .inl ⟨rfl, hg.2.symm⟩, h1, h2, h3, h4, hg.1, hb⟩

theorem sumI_app (ws xs ys : List Int) : sumI ws (xs ++ ys) = sumI ws xs + sumI ws ys := by simp [sumI]
theorem ws12_pos (k : Nat) : 0 ≤ ws12.getD k 0 ∧ ws12.getD k 0 ≤ 144 := by
  by_cases h : k < 12
  · exact (by decide : ∀ i : Fin 12, 0 ≤ ws12.getD i.1 0 ∧ ws12.getD i.1 0 ≤ 144) ⟨k, h⟩
  · rw [List.getD_eq_getElem?_getD, List.getElem?_eq_none (by show ws12.length ≤ k; have : ws12.length = 12 := rfl; omega)]; simp
theorem sumI_pos : ∀ xs : List Int, 0 ≤ sumI ws12 xs
  | [] => by simp [sumI]
  | x :: xs => by
    have h1 := sumI_pos xs
    have h2 := (ws12_pos x.toNat).1
    have : sumI ws12 (x :: xs) = ws12.getD x.toNat 0 + sumI ws12 xs := by simp [sumI]
    omega
theorem sumI_take (xs : List Int) (i : Nat) : 0 ≤ sumI ws12 (xs.take i) ∧ sumI ws12 (xs.take i) ≤ sumI ws12 xs := by
  have h := sumI_app ws12 (xs.take i) (xs.drop i)
  rw [List.take_append_drop] at h
  have h1 := sumI_pos (xs.take i)
  have h2 := sumI_pos (xs.drop i)
  omega

set_option maxHeartbeats 4000000 in
theorem squareslaw (x : Int) (hx : 0 ≤ x ∧ x ≤ 65535) (w : World) : Calls Try.prog 4 #[.int .u16 x] w fun e w' => e = .returned (.bool true) ∧ Below w.heap.size w w' := by
  obtain ⟨y, rfl⟩ := Int.eq_ofNat_of_zero_le hx.1
  have hy : y ≤ 65535 := by omega
  obtain ⟨n, hn⟩ : ∃ n : Nat, n = y % 577 + 1 := ⟨_, rfl⟩
  have hn1 : 1 ≤ n := by omega
  have hn2 : n ≤ 577 := by omega
  have hm : ((y : Int).tmod 577) = (n : Int) - 1 := by rw [Int.tmod_eq_emod_of_nonneg (by omega)]; omega
  have C4 := Lib.hid (four_in n hn1 hn2 w)
  have HM := Lib.hid hn
  clear hx hn
  go_enter Try.func4, Try.ntmps4
  go_wp2_with fail
  refine C4.out.mono ?_
  rintro e w1 ⟨A4, m4, a, b, c, d, rfl, hm4, hm4', hA4, ⟨hsum, ha, hb, hc, hd⟩, hfit4, hb1⟩
  have HA4 := Lib.hid hA4
  have HS := Lib.hid hsum
  have HF4 := Lib.hid hfit4
  have HB1 := Lib.hid hb1
  clear hA4 hsum hfit4 hb1 C4
  go_wp2_with fail
  refine (three_in n hn1 hn2 w1).mono ?_
  rintro e w2 ⟨A3, k3, m3, q3, l3, rfl, hq3, hk3, hk3', hm3, hm3', hA3, hfit3, hb2⟩
  have HA3 := Lib.hid hA3
  have HK3 := Lib.hid hk3
  have HF3 := Lib.hid hfit3
  have HA4 := Lib.hid (HA4.out.below hb2)
  have HB2 := Lib.hid (HB1.out.trans (hb2.mono HB1.out.size))
  clear hA3 hk3 hfit3 hb2
  have HOWN := Lib.hid (ow_new w2 w2.heap.size (Nat.le_refl _))
  go_wp2_with fail
  go_loopw [8, 9] (fun v8 v9 wr => WI w2 v8 v9 wr) (fun _ v9 _ => 13 - (intOf v9).toNat)
  case atStart => exact ⟨0, rfl, by omega, HOWN.out, (Below.refl _ _).alloc (Nat.le_refl _) _⟩
  case round =>
    obtain ⟨k, hv9, hk, HO, HB⟩ := hrel
    subst hv9
    by_cases hlt : k < 12
    · obtain ⟨z, hz⟩ : ∃ z, z = ((k : Int) + 1) * ((k : Int) + 1) := ⟨_, rfl⟩
      have hz0 : 0 ≤ z ∧ z ≤ 169 := by
        rw [hz]
        exact ⟨Int.mul_nonneg (by omega) (by omega), Int.le_trans (Int.mul_le_mul (show (k : Int) + 1 ≤ 13 by omega) (show (k : Int) + 1 ≤ 13 by omega) (by omega) (by omega)) (by omega)⟩
      have hz1 : IntKind.i64.wrap (((k : Int) + 1) * ((k : Int) + 1)) = z := by rw [← hz]; exact IntWalk.i64_in _ (by omega)
      obtain ⟨A, n', c', w3, hrun, hown, hbel⟩ := ow_push z HO.out HB.out.size (by rw [wsL_len]; omega)
      rw [hz, wsL_succ] at hown
      have HRUN := Lib.hid hrun
      have HOW := Lib.hid hown
      have HBL := Lib.hid hbel
      clear hz hz0 hrun hown hbel
      have hwk : IntKind.i64.wrap ((k : Int) + 1 + 1) = (k : Int) + 1 + 1 := IntWalk.i64_in _ (by omega)
      go_wp2_with (at_builtin; refine wpList_app rfl (.tmp 39) (.tmp 43) 27 27 rfl rfl _ _ rfl rfl HRUN.out ?_)
      go_roundw
      case rel => exact ⟨k + 1, by go_num, by omega, HOW.out, HB.out.trans (HBL.out.mono (Nat.le_refl _))⟩
      case measure => simp [intOf]; omega
    · have hk12 : k = 12 := by omega
      subst hk12
      have ho := HO.out
      rw [wsL_12] at ho
      obtain ⟨Aw, kw, mw, rfl, hkw, hmw, hmw', hAw⟩ := ho.sl.parts
      rw [show ws12.length = 12 from rfl] at hkw
      subst hkw
      have HAW := Lib.hid hAw
      have HA3 := Lib.hid (HA3.out.below HB.out)
      have HA4 := Lib.hid (HA4.out.below HB.out)
      have HBW := Lib.hid (HB2.out.trans (HB.out.mono HB2.out.size))
      clear HO ho hAw HB
      go_wp2_with fail
      refine (sub_in n Aw mw hmw hmw' wr HAW.out).mono ?_
      rintro e w4 ⟨B, ks, ms, q, xs, rfl, hq, hks, hms, hms', hB, hxs, hb4⟩
      have HXS := Lib.hid hxs
      have HKS := Lib.hid hks
      have HB0 := Lib.hid hB
      have HAW := Lib.hid (HAW.out.below hb4)
      have HA3 := Lib.hid (HA3.out.below hb4)
      have HA4 := Lib.hid (HA4.out.below hb4)
      have HBW := Lib.hid (HBW.out.trans (hb4.mono HBW.out.size))
      clear hxs hks hB hb4
      have HTOT : Hid (sumI ws12 xs ≤ 577) := by
        show _ ≤ _
        rcases hq with h | h
        · omega
        · rw [h.2.2]; decide
      have hq' : (q = 0 ∧ Hid (sumI ws12 xs = n)) ∨ (q = 5 ∧ Hid ((subF ws12 n).isSome = false ∧ xs = [])) := hq
      clear hq
      rcases hq3 with rfl | rfl <;> rcases hq' with ⟨rfl, HQ⟩ | ⟨rfl, HQ⟩
      all_goals
        go_wp2_with fail
        refine (lives_calls w4).mono ?_
        rintro e w5 ⟨rfl, hb5⟩
        have HAW := Lib.hid (HAW.out.below hb5)
        have HA3 := Lib.hid (HA3.out.below hb5)
        have HA4 := Lib.hid (HA4.out.below hb5)
        have HB0 := Lib.hid (HB0.out.below hb5)
        have HBW := Lib.hid (HBW.out.trans (hb5.mono HBW.out.size))
        clear hb5
        obtain ⟨b4, o4, e4, hlt4, hcs⟩ := HA4.out (by simp)
        cases e4
        have c0 : w5.cell? ⟨b4, o4, none⟩ = some (.int .i64 a) := hcs 0 (by simp)
        have c1 : w5.cell? ⟨b4, o4 + 1, none⟩ = some (.int .i64 b) := hcs 1 (by simp)
        have c2 : w5.cell? ⟨b4, o4 + 2, none⟩ = some (.int .i64 c) := hcs 2 (by simp)
        have c3 : w5.cell? ⟨b4, o4 + 3, none⟩ = some (.int .i64 d) := hcs 3 (by simp)
        have HSS : Hid (∀ w', Below w5.heap.size w5 w' → w'.cell? ⟨b4, o4, none⟩ = some (.int .i64 a) ∧ w'.cell? ⟨b4, o4 + 1, none⟩ = some (.int .i64 b) ∧ w'.cell? ⟨b4, o4 + 2, none⟩ = some (.int .i64 c) ∧ w'.cell? ⟨b4, o4 + 3, none⟩ = some (.int .i64 d)) := fun w' hb =>
          ⟨(hb.cell (p := ⟨b4, o4, none⟩) hlt4).trans c0, (hb.cell (p := ⟨b4, o4 + 1, none⟩) hlt4).trans c1, (hb.cell (p := ⟨b4, o4 + 2, none⟩) hlt4).trans c2, (hb.cell (p := ⟨b4, o4 + 3, none⟩) hlt4).trans c3⟩
        have CN : Hid (∀ w', Below w5.heap.size w5 w' → Calls Try.prog 14 #[.agg #[.int .i64 (2 * (a : Int)), .int .i64 (2 * (b : Int)), .int .i64 (2 * (c : Int)), .int .i64 (2 * (d : Int))]] w' fun e w'' => e = .returned (.tuple #[.int .i64 n, .int .i64 0]) ∧ Below w5.heap.size w5 w'') := fun w' hb =>
          (Norm_calls a b c d n HS.out (by omega) (by omega) (by omega) (by omega) (by omega) w').mono fun e w'' h => ⟨h.1, hb.trans (h.2.mono hb.size)⟩
        clear hcs
        have v0 : IntKind.i64.wrap (2 * (a : Int)) = 2 * (a : Int) := IntWalk.i64_in _ (by omega)
        have v1 : IntKind.i64.wrap (2 * (b : Int)) = 2 * (b : Int) := IntWalk.i64_in _ (by omega)
        have v2 : IntKind.i64.wrap (2 * (c : Int)) = 2 * (c : Int) := IntWalk.i64_in _ (by omega)
        have v3 : IntKind.i64.wrap (2 * (d : Int)) = 2 * (d : Int) := IntWalk.i64_in _ (by omega)
        go_wp2_with fail
        go_region_held3 (fun w' => w'.cell? ⟨b4, o4, none⟩ = some (.int .i64 a) ∧ w'.cell? ⟨b4, o4 + 1, none⟩ = some (.int .i64 b) ∧ w'.cell? ⟨b4, o4 + 2, none⟩ = some (.int .i64 c) ∧ w'.cell? ⟨b4, o4 + 3, none⟩ = some (.int .i64 d))
          ((first | exact HSS.out _ (Below.refl _ _).drew | exact HSS.out _ (by assumption)))
          ((go_at_call 14; (with_reducible refine (CN.out _ (Below.refl _ _).drew).mono ?_); rintro e w6 ⟨rfl, hb6⟩))
        have HB6 := Lib.hid hb6
        clear hb6 HSS CN v0 v1 v2 v3 c0 c1 c2 c3
        go_wp2_with fail
        obtain ⟨wG, hwG⟩ : ∃ wG, wG = w6.alloc (.cells #[.slice (some ⟨b4, o4, none⟩) 4 m4, .slice A3 k3 m3] 27) := ⟨_, rfl⟩
        have HBG : Hid (Below w5.heap.size w5 wG) := by show Below _ _ _; rw [hwG]; exact HB6.out.alloc HB6.out.size _
        have hg0 : wG.cell? ⟨w6.heap.size, 0, none⟩ = some (.slice (some ⟨b4, o4, none⟩) 4 m4) := by rw [hwG]; go_simp
        have hg1 : wG.cell? ⟨w6.heap.size, 1, none⟩ = some (.slice A3 k3 m3) := by rw [hwG]; go_simp
        have hgs : w6.heap.size < wG.heap.size := by rw [hwG]; simp
        have HAW := Lib.hid (HAW.out.below HBG.out)
        have HA3 := Lib.hid (HA3.out.below HBG.out)
        have HA4 := Lib.hid (HA4.out.below HBG.out)
        have HB0 := Lib.hid (HB0.out.below HBG.out)
        have HBW := Lib.hid (HBW.out.trans (HBG.out.mono HBW.out.size))
        rw [← hwG]
        clear hwG HB6 HBG
        go_loopw [110] (fun v wr' => ∃ i : Nat, v = .int .i64 i ∧ i ≤ 2 ∧ Hid (Below wG.heap.size wG wr')) (fun v _ => 2 - (intOf v).toNat)
        case atStart => exact ⟨0, rfl, by omega, Below.refl _ _⟩
        case round =>
          obtain ⟨i, rfl, hi2, HBR⟩ := hrel
          by_cases hlt2 : i < 2
          · obtain ⟨A, kk, m, ps, hcell, HRP, HKP, hkm, hm9, HFT⟩ : ∃ (A : Option Addr) (kk m : Nat) (ps : List Int), wG.cell? ⟨w6.heap.size, i, none⟩ = some (.slice A kk m) ∧ Hid (Rd wG A ps) ∧ Hid (kk = ps.length) ∧ kk ≤ m ∧ m ≤ 9223372036854775807 ∧ Hid (fitB ps kk = true → (subF ws12 n).isSome = true) := by
              rcases (show i = 0 ∨ i = 1 by omega) with rfl | rfl
              · exact ⟨_, 4, m4, _, hg0, HA4.out, Lib.hid rfl, hm4, hm4', HF4.out⟩
              · exact ⟨_, k3, m3, l3, hg1, HA3.out, HK3.out, hm3, hm3', HF3.out⟩
            have hcl := (HBR.out.cell (p := ⟨w6.heap.size, i, none⟩) hgs).trans hcell
            clear hcell hg0 hg1
            go_wp2_with fail
            go_loopw [16, 17] (fun v16 v17 wr' => ∃ j : Nat, v17 = .int .i64 j ∧ j ≤ kk ∧ v16 = .bool (fitB ps j) ∧ Hid (Below wG.heap.size wG wr')) (fun _ v17 _ => kk - (intOf v17).toNat)
            case atStart => exact ⟨0, rfl, Nat.zero_le _, by rw [HKP.out]; rfl, HBR.out⟩
            case round =>
              obtain ⟨j, hv17, hj, hv16, HBJ⟩ := hrel
              subst hv17
              subst hv16
              by_cases hjk : j < kk
              · have hjl : j < ps.length := by rw [← HKP.out]; exact hjk
                obtain ⟨b5, o5, e5, hb5, hdx⟩ := (HRP.out.below HBJ.out).at j hjl
                cases e5
                have HY := Lib.hid (getD_lt (0 : Int) () hjl)
                have hd0 : wr.cell? ⟨b5, o5 + j, none⟩ = some (.int .i64 (ps.getD j 0)) := hdx.trans (by rw [HY.out])
                clear hdx
                have HRPJ := Lib.hid (HRP.out.below HBJ.out)
                have HST : Hid (fitB ps (j + 1) = (fitB ps j && decide (ps.getD j 0 ≤ 12) && (j == 0 || decide (ps.getD j 0 < ps.getD (j - 1) 0) || ps.getD j 0 == 0))) := rfl
                cases hf : fitB ps j
                · rw [hf] at HST
                  have HF := Lib.hid hf
                  clear hf
                  go_wp2_with fail
                  go_quiet (fail)
                  go_wp2_with fail
                  go_roundw
                  case rel => exact ⟨j + 1, by go_num, by omega, by rw [HST.out]; rfl, below_drewN HBJ.out _⟩
                  case measure => simp [intOf]; omega
                · rw [hf, Bool.true_and] at HST
                  have HF := Lib.hid hf
                  clear hf
                  obtain ⟨z, hz⟩ : ∃ z, z = ps.getD j 0 := ⟨_, rfl⟩
                  rw [← hz] at hd0 HST
                  clear HY hz
                  have ij0 : (0 : Int) ≤ (j : Int) := by omega
                  have ij1 : (j : Int) < (kk : Int) := by omega
                  cases hz12 : decide (z ≤ 12)
                  · rw [hz12] at HST
                    go_wp2_with fail
                    go_quiet (fail)
                    go_wp2_with fail
                    go_roundw
                    case rel => exact ⟨j + 1, by go_num, by omega, by rw [HST.out]; rfl, below_drewN HBJ.out _⟩
                    case measure => simp [intOf]; omega
                  · rw [hz12, Bool.true_and] at HST
                    rcases Nat.eq_zero_or_pos j with hj0 | hj0
                    · subst hj0
                      simp only [Nat.add_zero] at hd0
                      go_wp2_with fail
                      go_quiet (fail)
                      go_wp2_with fail
                      go_roundw
                      case rel => exact ⟨0 + 1, by go_num, by omega, by rw [HST.out]; rfl, below_drewN HBJ.out _⟩
                      case measure => simp [intOf]; omega
                    · obtain ⟨i', rfl⟩ : ∃ i', j = i' + 1 := ⟨j - 1, by omega⟩
                      obtain ⟨b6, o6, e6, hb6, hdy⟩ := HRPJ.out.at i' (by omega)
                      cases e6
                      have HY1 := Lib.hid (getD_lt (0 : Int) () (show i' < ps.length by omega))
                      have hd1 : wr.cell? ⟨b5, o5 + i', none⟩ = some (.int .i64 (ps.getD i' 0)) := hdy.trans (by rw [HY1.out])
                      clear hdy
                      rw [Nat.add_sub_cancel, show (i' + 1 == 0) = false from rfl, Bool.false_or] at HST
                      obtain ⟨z', hz'⟩ : ∃ z', z' = ps.getD i' 0 := ⟨_, rfl⟩
                      rw [← hz'] at hd1 HST
                      clear HY1 hz' hj0
                      have i0 : (0 : Int) ≤ (i' : Int) + 1 := by omega
                      have i1 : (i' : Int) + 1 < (kk : Int) := by omega
                      have i2 : (0 : Int) ≤ (i' : Int) := by omega
                      have i3 : (i' : Int) < (kk : Int) := by omega
                      have i4 : ((i' : Int) + 1 == 0) = false := by rw [beq_eq_false_iff_ne]; omega
                      cases hlt' : decide (z < z')
                      · rw [hlt', Bool.false_or] at HST
                        cases hze : (z == 0)
                        · rw [hze] at HST
                          go_wp2_with fail
                          go_quiet (fail)
                          go_wp2_with fail
                          go_roundw
                          case rel => exact ⟨i' + 1 + 1, by go_num, by omega, by rw [HST.out], below_drewN HBJ.out _⟩
                          case measure => simp [intOf]; omega
                        · rw [hze] at HST
                          go_wp2_with fail
                          go_quiet (fail)
                          go_wp2_with fail
                          go_roundw
                          case rel => exact ⟨i' + 1 + 1, by go_num, by omega, by rw [HST.out], below_drewN HBJ.out _⟩
                          case measure => simp [intOf]; omega
                      · rw [hlt', Bool.true_or] at HST
                        go_wp2_with fail
                        go_quiet (fail)
                        go_wp2_with fail
                        go_roundw
                        case rel => exact ⟨i' + 1 + 1, by go_num, by omega, by rw [HST.out], below_drewN HBJ.out _⟩
                        case measure => simp [intOf]; omega
              · have hje : j = kk := by omega
                subst hje
                cases hfb : fitB ps j
                · go_wp2_with fail
                  go_roundw
                  case rel => exact ⟨i + 1, by go_num, by omega, HBJ.out⟩
                  case measure => simp [intOf]; omega
                · have hsome := HFT.out hfb
                  first
                  | (have hnone := HQ.out.1; exact absurd (hsome.symm.trans hnone) (by decide))
                  | (clear hsome
                     go_wp2_with fail
                     go_roundw
                     case rel => exact ⟨i + 1, by go_num, by omega, HBJ.out⟩
                     case measure => simp [intOf]; omega)
          · clear hg0 hg1
            go_wp2_with fail
            go_loopw [18, 19] (fun v18 v19 wr' => ∃ j : Nat, v19 = .int .i64 j ∧ j ≤ ks ∧ v18 = .int .i64 (sumI ws12 (xs.take j)) ∧ Hid (Below wG.heap.size wG wr')) (fun _ v19 _ => ks - (intOf v19).toNat)
            case atStart => exact ⟨0, rfl, Nat.zero_le _, rfl, HBR.out⟩
            case round =>
              obtain ⟨j, hv19, hj, hv18, HBJ⟩ := hrel
              subst hv19
              subst hv18
              by_cases hjk : j < ks
              · have hjl : j < xs.length := by rw [← HKS.out]; exact hjk
                have HAWJ := Lib.hid (HAW.out.below HBJ.out)
                obtain ⟨b5, o5, e5, hb5, hd0⟩ := (HB0.out.below HBJ.out).at j hjl
                cases e5
                obtain ⟨hx0, hx1⟩ := HXS.out _ (List.getElem_mem hjl)
                obtain ⟨xi, hxi⟩ : ∃ xi : Nat, xs[j] = (xi : Int) := ⟨xs[j].toNat, by omega⟩
                rw [hxi] at hd0 hx1
                have hxl : xi < ws12.length := by show xi < 12; omega
                obtain ⟨b6, o6, e6, hb6, hdx⟩ := HAWJ.out.at xi hxl
                cases e6
                have HZ := Lib.hid (getD_lt (0 : Int) () hxl)
                have HST : Hid (sumI ws12 (xs.take (j + 1)) = sumI ws12 (xs.take j) + ws12.getD xi 0) := by
                  show _ = _
                  rw [List.take_succ_eq_append_getElem hjl, sumI_app, hxi]; simp [sumI]
                have hd1 : wr.cell? ⟨b6, o6 + xi, none⟩ = some (.int .i64 (ws12.getD xi 0)) := hdx.trans (by rw [HZ.out])
                clear hdx
                obtain ⟨S, hS⟩ : ∃ S, S = sumI ws12 (xs.take j) := ⟨_, rfl⟩
                obtain ⟨z, hz⟩ : ∃ z, z = ws12.getD xi 0 := ⟨_, rfl⟩
                rw [← hS, ← hz] at HST
                rw [← hS]
                rw [← hz] at hd1
                have hb1 := sumI_take xs (j + 1)
                rw [HST.out] at hb1
                have hwr : IntKind.i64.wrap (S + z) = S + z := IntWalk.i64_in _ (by have := HTOT.out; omega)
                have hin : inB (xi : Int) 0 11 = true := by unfold inB; simp; omega
                have i0 : (0 : Int) ≤ (j : Int) := by omega
                have i1 : (j : Int) < (ks : Int) := by omega
                have i2 : (0 : Int) ≤ (xi : Int) := by omega
                have i3 : (xi : Int) < 12 := by omega
                have HHS := Lib.hid hS
                clear hS hz hb1 hxi HZ
                go_wp2_with fail
                refine (in_calls _ _ _ _).mono ?_
                rintro e w7 ⟨rfl, rfl⟩
                rw [hin]
                go_wp2_with fail
                go_roundw
                case rel => exact ⟨j + 1, by go_num, by omega, by rw [HST.out], HBJ.out⟩
                case measure => simp [intOf]; omega
              · have hje : j = ks := by omega
                subst hje
                have HTK : Hid (xs.take j = xs) := by show _ = _; exact List.take_of_length_le (by rw [← HKS.out]; exact Nat.le_refl _)
                rw [HTK.out]
                first
                | (have hfin : (sumI ws12 xs == (n : Int)) = true := by rw [beq_iff_eq]; exact HQ.out
                   go_wp2_with fail
                   go_ret
                   exact ⟨rfl, HBW.out.trans (HBJ.out.mono HBW.out.size)⟩)
                | (go_wp2_with fail
                   go_ret
                   exact ⟨rfl, HBW.out.trans (HBJ.out.mono HBW.out.size)⟩)
end Go.Proofs.Ythnhmfmlhlpggaa
