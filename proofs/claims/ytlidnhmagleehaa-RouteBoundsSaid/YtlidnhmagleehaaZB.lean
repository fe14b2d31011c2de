/- What is proved: the reference's measures of an order. No condition beyond those in each statement. -/
import Derived.Test.YtlidnhmagleehaaZA
namespace Go.Proofs.Ytlidnhmagleehaa
open Go.RowKit

def MeaI (w : World) (pl : List Int) (es : List (Int × Int)) (ne : Nat) (b s q : Value) (wr : World) : Prop :=
  ∃ (i : Nat), q = .int .i64 i ∧ i ≤ ne ∧ b = .int .i64 (bandF pl (es.take i)) ∧ s = .int .i64 (totalF pl (es.take i)) ∧ Hid (Below w.heap.size w wr)
set_option maxHeartbeats 8000000 in
theorem rmeasure_calls (k : Nat) (hk : 1 ≤ k ∧ k ≤ 8) (B : Option Addr) (ne ce : Nat) (es : List (Int × Int)) (A : Option Addr) (m c : Nat) (o : List Int) (w : World) (hne : ne = es.length) (h30 : ne ≤ 100) (hg : IsG k es) (hB : RdE w B es) (hle : ne ≤ ce) (hce : ce ≤ 9223372036854775807) (hm : m = k) (ho : IsOrd k o) (hA : Rd w A o) (hl : m ≤ c) (hc : c ≤ 9223372036854775807) :
    Calls Try.prog 25 #[.slice B ne ce, .slice A m c] w fun e w' => e = .returned (.tuple #[.int .i64 (bandF (posF o) es), .int .i64 (cutF (posF o) es), .int .i64 (totalF (posF o) es)]) ∧ Below w.heap.size w w' := by
  have CP := Lib.hid (rplaces_calls k hk A m c o w hm ho hA hl hc)
  have CC := Lib.hid (fun (W : World) (hB : RdE W B es) (hA : Rd W A o) => rcuts_calls k hk B ne ce es A m c o W hne h30 hg hB hle hce hm ho hA hl hc)
  subst hm
  have HO := Lib.hid ho
  have HG := Lib.hid hg
  have HB := Lib.hid hB
  have HA := Lib.hid hA
  have HNE := Lib.hid hne
  have HPL : Hid ((posF o).length = m) := by show _ = _; rw [posF_len, ho.len]
  have HPO := Lib.hid (pos_ok ho)
  have HED : Hid (EdOk m es) := fun e he => ⟨(hg e he).1, (hg e he).2.1⟩
  clear ho hg hB hne hA
  go_enter Try.func25, Try.ntmps25
  go_wp2_with fail
  refine CP.out.mono ?_
  rintro e w1 ⟨gp, rfl, har, hB1⟩
  have HPR := Lib.hid har.rd
  have HE := Lib.hid (HB.out.below hB1)
  have HA := Lib.hid (HA.out.below hB1)
  have HW := Lib.hid hB1
  clear har hB1
  go_wp2_with fail
  refine (CC.out _ HE.out HA.out).mono ?_
  rintro e w2 ⟨gc, cc, rfl, harc, hB2⟩
  have HPR := Lib.hid (HPR.out.below hB2)
  have HCR := Lib.hid harc.rd
  have hcc := harc.bd
  have hcl : (cutsF (posF o) es).length = m - 1 := by rw [cutsF_len, HPL.out]
  rw [hcl] at hcc
  have HCL := Lib.hid hcl
  have HE := Lib.hid (HE.out.below hB2)
  have HW := Lib.hid (HW.out.trans (hB2.mono HW.out.size))
  clear harc hB2 hcl
  obtain ⟨K, hKK⟩ : ∃ K, K = m - 1 := ⟨_, rfl⟩
  rw [← hKK] at hcc HCL ⊢
  have hK8 : K ≤ 7 := by omega
  clear hKK
  go_wp2_with fail
  go_loopw [9, 11, 12] (MeaI w2 (posF o) es ne) (fun _ _ q _ => ne - (intOf q).toNat)
  case atStart => exact ⟨0, rfl, Nat.zero_le _, rfl, rfl, Lib.hid (Below.refl _ _)⟩
  case round =>
    obtain ⟨i, rfl, hi, rfl, rfl, HB4⟩ := hrel
    by_cases hli : i < ne
    · have hil : i < es.length := by have := HNE.out; omega
      obtain ⟨b, off, rfl, hb, hc1, hc2⟩ := HE.out.at i hil
      have hge := HG.out es[i] (List.getElem_mem hil)
      have HBT := Lib.hid (band_take (pl := posF o) hil)
      have HTT := Lib.hid (total_take (pl := posF o) hil)
      have hbs := band_small HPO.out HED.out i
      have hts := total_small HPO.out HED.out i (by omega)
      have hls := len_small HPO.out (HED.out es[i] (List.getElem_mem hil))
      obtain ⟨x, hx⟩ : ∃ x : Nat, es[i].1 = x := ⟨es[i].1.toNat, by omega⟩
      obtain ⟨y, hy⟩ : ∃ x : Nat, es[i].2 = x := ⟨es[i].2.toNat, by omega⟩
      have d1 := (HB4.out.cell (p := ⟨b, off + i * 2, none⟩) hb).trans hc1
      have d2 := (HB4.out.cell (p := ⟨b, off + i * 2 + 1, none⟩) hb).trans hc2
      rw [hx] at d1 hge
      rw [hy] at d2 hge
      have hxm : x < m := by omega
      have hym : y < m := by omega
      have d3 := (HPR.out.below HB4.out).at2 x (by rw [HPL.out]; exact hxm)
      have d4 := (HPR.out.below HB4.out).at2 y (by rw [HPL.out]; exact hym)
      have p1 := HPO.out.2 _ (List.getElem_mem (l := posF o) (n := x) (by rw [HPL.out]; exact hxm))
      have p2 := HPO.out.2 _ (List.getElem_mem (l := posF o) (n := y) (by rw [HPL.out]; exact hym))
      have hlen : lenF (posF o) es[i] = max ((posF o).getD x 0 - (posF o).getD y 0) ((posF o).getD y 0 - (posF o).getD x 0) := by
        unfold lenF; rw [hx, hy, Int.toNat_natCast, Int.toNat_natCast]
      rw [← getD_lt (0 : Int) () (by rw [HPL.out]; omega)] at d3 d4 p1 p2
      rw [Nat.zero_add] at d3 d4
      obtain ⟨X, hX⟩ : ∃ X, X = (posF o).getD x 0 := ⟨_, rfl⟩
      obtain ⟨Y, hY⟩ : ∃ X, X = (posF o).getD y 0 := ⟨_, rfl⟩
      rw [← hX] at d3 p1 hlen
      rw [← hY] at d4 p2 hlen
      have HLE := Lib.hid hlen
      obtain ⟨D, hD⟩ : ∃ D, D = lenF (posF o) es[i] := ⟨_, rfl⟩
      obtain ⟨M, hM⟩ : ∃ D, D = bandF (posF o) (es.take i) := ⟨_, rfl⟩
      obtain ⟨T, hT⟩ : ∃ D, D = totalF (posF o) (es.take i) := ⟨_, rfl⟩
      rw [← hD] at HBT HTT HLE hls
      rw [← hM] at HBT hbs ⊢
      rw [← hT] at HTT hts ⊢
      have hT1 : 0 ≤ T ∧ T ≤ 1000 := by
        have h2 : (m : Int) * i ≤ 8 * 100 := Int.mul_le_mul (by omega) (by omega) (by omega) (by omega)
        omega
      have z1 : (0 : Int) ≤ (i : Int) ∧ (i : Int) < ne := by omega
      have z2 : (0 : Int) ≤ (x : Int) ∧ (x : Int) < m := by omega
      have z3 : (0 : Int) ≤ (y : Int) ∧ (y : Int) < m := by omega
      have w1' : IntKind.i64.wrap (X - Y) = X - Y := IntWalk.i64_in _ (by omega)
      have w2' : IntKind.i64.wrap (Y - X) = Y - X := IntWalk.i64_in _ (by omega)
      have wi : IntKind.i64.wrap ((i : Int) + 1) = (i : Int) + 1 := IntWalk.i64_in _ (by omega)
      have hD' : D = max (X - Y) (Y - X) := HLE.out
      have wd : IntKind.i64.wrap (T + D) = T + D := IntWalk.i64_in _ (by omega)
      have e9 : (if X - Y < Y - X then Y - X else X - Y) = D := by rw [HLE.out]; split <;> omega
      have E9 := Lib.hid e9
      clear hc1 hc2 hx hy hge hX hY hlen hD hM hT hts hD' e9
      go_wp2_with fail
      go_quiet (fail)
      rw [E9.out]
      clear d1 d2 d3 d4 w1' w2'
      go_wp2_with fail
      all_goals
        go_roundw
        case rel => exact ⟨i + 1, by go_num, by omega, by rw [HBT.out]; first | rfl | (congr 1; omega), by rw [HTT.out], Lib.hid (below_drewN HB4.out _)⟩
        case measure => simp [intOf]; omega
    · have e : i = es.length := by have := HNE.out; omega
      have hbf : bandF (posF o) (es.take i) = bandF (posF o) es := by rw [e, List.take_length]
      have htf : totalF (posF o) (es.take i) = totalF (posF o) es := by rw [e, List.take_length]
      rw [hbf, htf]
      have HW := Lib.hid (HW.out.trans (HB4.out.mono HW.out.size))
      have HCR := Lib.hid (HCR.out.below HB4.out)
      have hsm := cuts_small (posF o) es
      have HMO : Hid (cutF (posF o) es = mostF (cutsF (posF o) es)) := rfl
      obtain ⟨xs, hxs⟩ : ∃ xs, xs = cutsF (posF o) es := ⟨_, rfl⟩
      rw [← hxs] at HCR HCL hsm HMO
      have HSM := Lib.hid hsm
      have HEL := Lib.hid e
      obtain ⟨BF, hBF⟩ : ∃ D, D = bandF (posF o) es := ⟨_, rfl⟩
      obtain ⟨TF, hTF⟩ : ∃ D, D = totalF (posF o) es := ⟨_, rfl⟩
      obtain ⟨CF, hCF⟩ : ∃ D, D = cutF (posF o) es := ⟨_, rfl⟩
      rw [← hCF] at HMO
      rw [← hBF, ← hTF]
      have HFF := Lib.hid (And.intro hBF (And.intro hCF hTF))
      clear hbf htf hxs hsm hBF hTF hCF e
      go_wp2_with fail
      go_loop [10, 14] (MostI xs K) (fun _ q => K - (intOf q).toNat)
      case atStart => exact ⟨0, rfl, Nat.zero_le _, rfl⟩
      case round =>
        obtain ⟨j, rfl, hj, rfl⟩ := hrel
        by_cases hlj : j < K
        · have hjl : j < xs.length := by have := HCL.out; omega
          have d1 := HCR.out.at2 j hjl
          rw [Nat.zero_add] at d1
          have HT := Lib.hid (most_take hjl)
          have hb1 := HSM.out _ (List.getElem_mem hjl)
          have hes : es.length ≤ 100 := by have := HNE.out; omega
          have hM2 : 0 ≤ mostF (xs.take j) ∧ mostF (xs.take j) ≤ 1000 := ⟨mostF_ge.1, mostF_le.2 ⟨by omega, fun x hx => by have := HSM.out x (List.mem_of_mem_take hx); omega⟩⟩
          obtain ⟨q, hq⟩ : ∃ q, q = xs[j] := ⟨_, rfl⟩
          obtain ⟨M, hM⟩ : ∃ M, M = mostF (xs.take j) := ⟨_, rfl⟩
          rw [← hq] at d1 HT hb1
          rw [← hM] at HT hM2 ⊢
          have wj : IntKind.i64.wrap ((j : Int) + 1) = (j : Int) + 1 := IntWalk.i64_in _ (by omega)
          clear hq hM
          go_wp2_with fail
          all_goals
            go_round
            case rel => exact ⟨j + 1, by go_num, by omega, by rw [HT.out]; first | rfl | (congr 1; omega)⟩
            case measure => simp [intOf]; omega
        · have hfl : mostF (xs.take j) = CF := by rw [HMO.out, List.take_of_length_le (by have := HCL.out; omega)]
          rw [hfl]
          clear hfl
          go_wp2_with fail
          go_ret3
          obtain ⟨f1, f2, f3⟩ := HFF.out
          rw [← f1, ← f2, ← f3]
          exact ⟨rfl, HW.out⟩
end Go.Proofs.Ytlidnhmagleehaa
