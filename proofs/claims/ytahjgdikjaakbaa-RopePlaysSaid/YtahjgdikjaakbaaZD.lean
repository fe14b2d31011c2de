/- What is proved: RopeNumbers. No condition beyond those in each statement. -/
import Derived.Test.YtahjgdikjaakbaaZC
namespace Go.Proofs.Ytahjgdikjaakbaa
open Go.RowKit

/-- A slice of n integers, by its cells. -/
def SlN (w : World) (n : Nat) (v : Value) (xs : List Int) : Prop := ∃ A c, v = .slice A n c ∧ n ≤ c ∧ c ≤ 9223372036854775807 ∧ ∀ k, k < n → ∃ b o, A = some ⟨b, o, none⟩ ∧ b < w.heap.size ∧ w.cell? ⟨b, o + k, none⟩ = some (.int .i64 (xs.getD k 0))
theorem Sl.n {w : World} {n : Nat} {v : Value} {xs : List Int} (h : Sl w v xs) (hn : xs.length = n) : SlN w n v xs := by
  obtain ⟨A, c, rfl, h1, h2, _, h3⟩ := h
  refine ⟨A, c, by rw [hn], by omega, h2, fun k hk => ?_⟩
  obtain ⟨b, o, e, hb, hc⟩ := h3.at k (by omega)
  exact ⟨b, o, e, hb, by rw [hc, getD_lt _ () (by omega)]⟩
theorem law_known {w : Fr} {wr : World} {T n i : Nat} {t : TS} (h : LawI w T n i t wr) (a : Nat) (ha : a < n) : Calls Try.prog 26 #[.pointer (some ⟨T, 0, none⟩), .int .i64 a] wr fun e w' => ∃ v, e = .returned v ∧ SlN w' n v (t.known.getD a []) ∧ LawI w T n i t w' ∧ Below wr.heap.size wr w' := by
  refine (on_known h.on a).mono ?_
  rintro e w' ⟨v, rfl, ho, _, hb⟩
  unfold TS.kno at ho
  rw [if_pos (thereB_nat (by rw [h.n]; exact ha)), Int.toNat_natCast] at ho
  exact ⟨v, rfl, ho.sl.n (by rw [h.ok.1.lki a (by rw [h.n]; exact ha), h.n]), h.below hb, hb⟩
def NuJ (w : World) (T n i : Nat) (t : TS) (w3 : World) (v9 : Value) (wr : World) : Prop := ∃ j : Nat, v9 = .int .i64 j ∧ j ≤ n ∧ LawI w T n i t wr ∧ Below w3.heap.size w3 wr
set_option maxRecDepth 100000 in
set_option maxHeartbeats 8000000 in
theorem numbers_calls (x y : Int) (A : Option Addr) (L c : Nat) (xs : List Int) (w : World) (hx : 0 ≤ x ∧ x ≤ 255) (hy : 0 ≤ y ∧ y ≤ 255) (hL : L = xs.length) (hA : RdU w A xs) (_hl : L ≤ c) (hc : c ≤ 9223372036854775807) (hxs : ∀ b ∈ xs, 0 ≤ b ∧ b ≤ 255) :
    Calls Try.prog 6 #[.agg #[.int .u8 x, .int .u8 y], .slice A L c] w fun e w' => e = .returned (.bool true) ∧ Below w.heap.size w w' := by
  obtain ⟨n, hn⟩ : ∃ n, n = mdN x := ⟨_, rfl⟩
  have CM : Hid (Calls Try.prog 13 #[.agg #[.int .u8 x, .int .u8 y]] (w.alloc (.cells #[.int .u8 x, .int .u8 y] 22)) fun e w' => ∃ T, e = .returned (.tuple #[.pointer (some ⟨T, 0, none⟩), .int .i64 n]) ∧ On w T (mdT x y) w') := by rw [hn]; exact tmade_calls w _ ((Below.refl _ _).alloc (Nat.le_refl _) _) x y hx hy
  have hn6 : 1 ≤ n ∧ n ≤ 6 := by rw [hn]; exact (md_ok x y).1
  have CL := Lib.hid (fun w1 => lives_calls w1)
  have HA := Lib.hid hA
  have HL := Lib.hid hL
  have HXS := Lib.hid hxs
  have HM : Hid (Ok (mdT x y) 0 ∧ (mdT x y).n = n) := ⟨mdT_ok x y, hn.symm⟩
  have hLc : (L : Int) ≤ 9223372036854775807 := by omega
  clear hA hL hxs hn
  go_enter Try.func6, Try.ntmps6
  go_wp2_with fail
  refine CM.out.mono ?_
  rintro e w1 ⟨T, rfl, ho⟩
  have HO := Lib.hid ho
  clear ho CM
  go_wp2_with fail
  refine (CL.out _).mono ?_
  rintro e w2 ⟨rfl, hb⟩
  have HO2 := Lib.hid (HO.out.below hb)
  clear hb CL HO
  go_wp2_with fail
  go_loopw [7] (fun v7 wr => ExI w T n v7 wr) (fun v7 _ => L - (intOf v7).toNat)
  case atStart => exact ⟨0, mdT x y, rfl, HO2.out, HM.out.1, HM.out.2⟩
  case round =>
    obtain ⟨i, t, rfl, hlaw⟩ := hrel
    have HLAW := Lib.hid hlaw
    by_cases hcond : i < L ∧ i < 150
    · obtain ⟨h1, h2⟩ := hcond
      have hil : i < xs.length := by have := HL.out; omega
      obtain ⟨b, o, rfl, hb, hcell⟩ := HA.out.at i hil
      have d1 := (hlaw.on.bel.cell (p := ⟨b, o + i, none⟩) hb).trans hcell
      have hxi := HXS.out xs[i] (List.getElem_mem hil)
      obtain ⟨xi, hxi2⟩ : ∃ xi, xi = xs[i] := ⟨_, rfl⟩
      rw [← hxi2] at d1 hxi
      have CA := Lib.hid (hlaw.act (by omega) xi hxi)
      have b1 : (0 : Int) ≤ i ∧ (i : Int) < L := by omega
      obtain ⟨r, hr⟩ : ∃ r, r = t.actB xi := ⟨_, rfl⟩
      rw [← hr] at CA
      clear hlaw hcell hb hxi2 hxi hr
      go_wp2_with fail
      refine CA.out.mono ?_
      rintro e w3 ⟨rfl, hlaw⟩
      obtain ⟨t', ht'⟩ : ∃ t', t' = t.act xi := ⟨_, rfl⟩
      rw [← ht'] at hlaw
      have CS := Lib.hid (on_served hlaw.on hlaw.ok)
      have HLW := Lib.hid hlaw
      clear hlaw CA ht' d1
      go_wp2_with fail
      refine CS.out.mono ?_
      rintro e w4 ⟨v, rfl, ho, _, hb4⟩
      have HL4 := Lib.hid (HLW.out.below hb4)
      obtain ⟨S, cs, rfl, hcs, hcs2, hsc⟩ := ho.sl.n (n := n) (by rw [HL4.out.ok.1.ls, HL4.out.n])
      have HSC := Lib.hid hsc
      clear ho hb4 hsc CS HLW
      go_wp2_with fail
      go_loopw [9] (fun v9 wr => NuJ w T n (i + 1) t' w4 v9 wr) (fun v9 _ => n - (intOf v9).toNat)
      case atStart => exact ⟨0, rfl, Nat.zero_le _, HL4.out, Below.refl _ _⟩
      case round =>
        obtain ⟨wj, hwj⟩ : ∃ x, x = wr := ⟨_, rfl⟩
        subst hwj
        obtain ⟨j, rfl, hj, hlj, hbj⟩ := hrel
        have HLJ := Lib.hid hlj
        have HBJ := Lib.hid hbj
        by_cases hjn : j < n
        · have CK := Lib.hid (law_known hlj j hjn)
          have hin := hlj.ok.1
          have hs1 := hin.sv0 j (by rw [hlj.n]; exact hjn)
          have hkb := hlj.ok.2.kk j (by rw [hlj.n]; exact hjn)
          obtain ⟨b5, o5, rfl, hb5, hc5⟩ := HSC.out j hjn
          have d5 := (hbj.cell (p := ⟨b5, o5 + j, none⟩) hb5).trans hc5
          have e5 : t'.served.getD j 0 = t'.s j := rfl
          rw [e5] at d5
          obtain ⟨sj, hsj⟩ : ∃ sj, sj = t'.s j := ⟨_, rfl⟩
          obtain ⟨oj, hoj⟩ : ∃ oj, oj = t'.k j j := ⟨_, rfl⟩
          rw [← hsj] at hs1 d5
          rw [← hoj] at hs1 hkb
          have HOJ := Lib.hid hoj
          clear hlj hbj hin hc5 e5 hsj hoj
          go_wp2_with fail
          refine CK.out.mono ?_
          rintro e w5 ⟨v5, rfl, hs5, hl5, hb6⟩
          have HL5 := Lib.hid hl5
          have d6 := (hb6.cell (p := ⟨b5, o5 + j, none⟩) (Nat.lt_of_lt_of_le hb5 HBJ.out.size)).trans d5
          have HB5 := Lib.hid (HBJ.out.trans (hb6.mono HBJ.out.size))
          obtain ⟨O, co, rfl, hco, hco2, hoc⟩ := hs5
          obtain ⟨b7, o7, rfl, hb7, hc7⟩ := hoc j hjn
          have e7 : (t'.known.getD j []).getD j 0 = oj := HOJ.out.symm
          rw [e7] at hc7
          have z1 : (0 : Int) ≤ (j : Int) ∧ (j : Int) < n := by omega
          have HC7 := Lib.hid hc7
          have ws : IntKind.i64.wrap (oj - 1) = oj - 1 := IntWalk.i64_in _ (by omega)
          have q1 : ¬ sj > oj := by omega
          have q2 : ¬ sj < oj - 1 := by omega
          clear hl5 hb6 d5 hoc CK e7
          go_wp2_with fail
          go_quiet (fail)
          clear q1 q2 d6 hc7
          go_wp2_with fail
          have HLQ : Hid (LawI w T n (i + 1) t' (w5.drewN nq)) := HL5.out.below (below_drewN (Below.refl _ _) _)
          have HBQ : Hid (Below w5.heap.size w5 (w5.drewN nq)) := below_drewN (Below.refl _ _) _
          go_loopw [11] (fun v11 wr => NuJ w T n (i + 1) t' w5 v11 wr) (fun v11 _ => n - (intOf v11).toNat)
          case atStart => exact ⟨0, rfl, Nat.zero_le _, HLQ.out, HBQ.out⟩
          case round =>
            obtain ⟨k, rfl, hk, hlk, hbk⟩ := hrel
            have HLK := Lib.hid hlk
            have HBK := Lib.hid hbk
            by_cases hkn : k < n
            · have CK := Lib.hid (law_known hlk k hkn)
              have d7 := (hbk.cell (p := ⟨b7, o7 + j, none⟩) hb7).trans HC7.out
              have hkk := hlk.ok.1.kn k j (by rw [hlk.n]; exact hkn) (by rw [hlk.n]; exact hjn)
              rw [← HOJ.out] at hkk
              have hb7' := Nat.lt_of_lt_of_le hb7 hbk.size
              obtain ⟨lj, hlj⟩ : ∃ lj, lj = t'.k k j := ⟨_, rfl⟩
              rw [← hlj] at hkk
              have HLJ2 := Lib.hid hlj
              clear hlk hbk hlj
              go_wp2_with fail
              refine CK.out.mono ?_
              rintro e w6 ⟨v6, rfl, hs6, hl6, hb6⟩
              have HL6 := Lib.hid hl6
              have d8 := (hb6.cell (p := ⟨b7, o7 + j, none⟩) hb7').trans d7
              have HB6 := Lib.hid (HBK.out.trans (hb6.mono HBK.out.size))
              obtain ⟨G, cg, rfl, hcg, hcg2, hgc⟩ := hs6
              obtain ⟨b9, o9, rfl, hb9, hc9⟩ := hgc j hjn
              have e9 : (t'.known.getD k []).getD j 0 = lj := HLJ2.out.symm
              rw [e9] at hc9
              have q1 : ¬ lj > oj := by omega
              have q2 : ¬ lj < 0 := by omega
              clear hl6 hb6 d7 hgc CK e9
              go_wp2_with fail
              go_quiet (fail)
              clear q1 q2 d8 hc9
              go_wp2_with fail
              go_roundw
              case rel => exact ⟨k + 1, by go_num, by omega, HL6.out.below (below_drewN (Below.refl _ _) _), below_drewN HB6.out _⟩
              case measure => simp [intOf]; omega
            · have hkn2 : k = n := by omega
              subst hkn2
              clear hlk hbk
              go_wp2_with fail
              exact ⟨⟨j + 1, by go_num, hjn, HLK.out, HB5.out.trans (HBK.out.mono HB5.out.size)⟩, by simp [intOf]; omega⟩
        · have hjn2 : j = n := by omega
          subst hjn2
          clear hlj hbj
          go_wp2_with fail
          exact ⟨⟨i + 1, t', by go_num, HLJ.out⟩, by simp [intOf]; omega⟩
    · clear hlaw
      by_cases h1 : i < L
      · have h2 : ¬ i < 150 := fun h => hcond ⟨h1, h⟩
        clear hcond
        go_wp2_with fail
        go_ret
        exact ⟨rfl, HLAW.out.on.bel⟩
      · clear hcond
        go_wp2_with fail
        go_ret
        exact ⟨rfl, HLAW.out.on.bel⟩
end Go.Proofs.Ytahjgdikjaakbaa
