/- What is proved: the law of sums (G2). No condition beyond those in each statement. -/
import Derived.Test.YtlidnhmagleehaaW
namespace Go.Proofs.Ytlidnhmagleehaa
open Go.RowKit

theorem sum_take {l : List Int} {i : Nat} (hi : i < l.length) : (l.take (i + 1)).sum = (l.take i).sum + l[i] := by
  rw [List.take_succ_eq_append_getElem hi, List.sum_append]; simp
def SumI (l : List Int) (k : Nat) (a s q : Value) : Prop :=
  ∃ i : Nat, q = .int .i64 i ∧ i ≤ k ∧ a = .int .i64 (l.take i).sum ∧ s = .int .i64 (mostF (l.take i))
theorem meas_ok {k : Nat} (hk : 1 ≤ k ∧ k ≤ 8) {es : List (Int × Int)} (h30 : es.length ≤ 30) (hg : IsG k es) {o : List Int} (ho : IsOrd k o) : badO k es o = 0 := by
  unfold badO
  rw [check_ok hk h30 hg, places_ok ho]; rfl
set_option maxHeartbeats 8000000 in
theorem sumlaw_calls (x : Int) (A : Option Addr) (m c : Nat) (ps : List (Int × Int)) (B : Option Addr) (m2 c2 : Nat) (bs : List Int) (w : World) (hx : 0 ≤ x ∧ x ≤ 255) (hm : m = ps.length) (hA : RdP w A ps) (hl : m ≤ c) (hc : c ≤ 9223372036854775807) (hps : ∀ p ∈ ps, (0 ≤ p.1 ∧ p.1 ≤ 255) ∧ (0 ≤ p.2 ∧ p.2 ≤ 255))
    (hm2 : m2 = bs.length) (hB : RdU w B bs) (hl2 : m2 ≤ c2) (hc2 : c2 ≤ 9223372036854775807) (hbs : ∀ b ∈ bs, 0 ≤ b ∧ b ≤ 255) :
    Calls Try.prog 11 #[.int .u8 x, .slice A m c, .slice B m2 c2] w fun e w' => e = .returned (.bool true) ∧ Below w.heap.size w w' := by
  have CM := Lib.hid (made_calls x A m c ps 8 w hx (by omega) hm hA hl hc hps)
  have CO := Lib.hid (fun (n : Nat) (hn : n ≤ 20) (W : World) (h : RdU W B bs) => order_calls n hn B m2 c2 bs W hm2 h hl2 hc2 hbs)
  have HBU := Lib.hid hB
  clear hm hA hps hm2 hB hbs
  go_enter Try.func11, Try.ntmps11
  go_wp2_with fail
  refine CM.out.mono ?_
  rintro e w1 ⟨k, es, g, cg, hk, h20, hg, rfl, ho, hB⟩
  have HBU := Lib.hid (HBU.out.below hB)
  have HO := Lib.hid ho
  have HG := Lib.hid hg
  have HW := Lib.hid hB
  have hbd := ho.bd
  have h30 : es.length ≤ 30 := by omega
  obtain ⟨L, hL⟩ : ∃ L, L = es.length := ⟨_, rfl⟩
  rw [← hL] at hbd h20 ⊢
  have HL := Lib.hid hL
  have H30 := Lib.hid h30
  clear ho hB hg hL h30
  go_wp2_with fail
  refine (CO.out k (by omega) _ HBU.out).mono ?_
  rintro e w2 ⟨o, go, co, hord, rfl, har, hB2⟩
  have HE := Lib.hid (HO.out.rd.below hB2)
  have HORD := Lib.hid hord
  have HAR := Lib.hid har.rd
  have HW := Lib.hid (HW.out.trans (hB2.mono HW.out.size))
  have hkc := har.bd
  rw [hord.len] at hkc
  have HOL := Lib.hid hord.len
  have hbad := meas_ok hk H30.out HG.out hord
  have HM : Hid (MeasR k es o = (bandF (posF o) es, cutF (posF o) es, totalF (posF o) es, 0)) := by show _ = _; unfold MeasR; rw [if_neg (by rw [hbad]; simp)]
  have HBAD := Lib.hid hbad
  clear hord har hB2 hbad HO
  go_wp2_with fail
  refine (measure_calls k (some ⟨g, 0, none⟩) L cg es (some ⟨go, 0, none⟩) k co o _ HL.out HE.out hbd.1 hbd.2 HOL.out.symm HAR.out hkc.1 hkc.2).mono ?_
  rintro e w3 ⟨rfl, hB3⟩
  rw [HM.out]
  have HE := Lib.hid (HE.out.below hB3)
  have HAR := Lib.hid (HAR.out.below hB3)
  have HW := Lib.hid (HW.out.trans (hB3.mono HW.out.size))
  clear hB3
  go_wp2_with fail
  refine (Cuts_calls k (some ⟨g, 0, none⟩) L cg es (some ⟨go, 0, none⟩) k co o _ HL.out HE.out hbd.1 hbd.2 HOL.out.symm HAR.out hkc.1 hkc.2).mono ?_
  rintro e w4 ⟨hB4, h4⟩
  rw [if_neg (by rw [HBAD.out]; simp), HOL.out] at h4
  obtain ⟨g4, rfl, har4⟩ := h4
  have HW := Lib.hid (HW.out.trans (hB4.mono HW.out.size))
  have hK : (cutsF (posF o) es).length = k - 1 := by rw [cutsF_len, posF_len, HOL.out]
  have hsm := cuts_small (posF o) es
  have hsum := cuts_sum HORD.out HG.out
  obtain ⟨K, hKK⟩ : ∃ K, K = k - 1 := ⟨_, rfl⟩
  have hK1 : (K : Int) = (k : Int) - 1 := by omega
  rw [← hKK] at har4 hK ⊢
  have hK8 : K ≤ 7 := by omega
  obtain ⟨xs, hxs⟩ : ∃ xs, xs = cutsF (posF o) es := ⟨_, rfl⟩
  have hmost : cutF (posF o) es = mostF xs := by rw [hxs]; rfl
  rw [← hxs] at har4 hK hsm hsum
  obtain ⟨T, hT⟩ : ∃ T, T = totalF (posF o) es := ⟨_, rfl⟩
  rw [← hT] at hsum ⊢
  rw [hmost]
  obtain ⟨M, hM⟩ : ∃ M, M = mostF xs := ⟨_, rfl⟩
  rw [← hM]
  have HA4 := Lib.hid har4
  have HK := Lib.hid hK
  have HSM := Lib.hid hsm
  have HSUM := Lib.hid hsum
  have HMO := Lib.hid hM
  have HK1 := Lib.hid hK1
  have wk1 : IntKind.i64.wrap ((k : Int) - 1) = (K : Int) := by rw [hK1]; exact IntWalk.i64_in _ (by omega)
  clear hB4 har4 hK hsm hsum hKK hxs hmost hT hM hK1
  go_wp2_with fail
  go_loop [16, 17, 18] (SumI xs K) (fun _ _ q => K - (intOf q).toNat)
  case atStart => exact ⟨0, rfl, Nat.zero_le _, rfl, rfl⟩
  case round =>
    obtain ⟨i, rfl, hi, rfl, rfl⟩ := hrel
    by_cases hlt : i < K
    · have hil : i < xs.length := by have := HK.out; omega
      have d1 := HA4.out.at i hil
      have HT := Lib.hid (most_take hil)
      have HS := Lib.hid (sum_take hil)
      have hb1 := HSM.out _ (List.getElem_mem hil)
      have hL20 : (es.length : Int) ≤ 20 := by have := HL.out; omega
      have hlen : (xs.take i).length = i := by rw [List.length_take]; omega
      have hs1 : (xs.take i).sum ≤ 1000 := by
        have h := sum_le (B := 20) (l := xs.take i) (fun x hx => by have := HSM.out x (List.mem_of_mem_take hx); omega)
        rw [hlen] at h; omega
      have hs0 : 0 ≤ (xs.take i).sum := by
        have h := sum_ge (B := 0) (l := xs.take i) (fun x hx => (HSM.out x (List.mem_of_mem_take hx)).1)
        omega
      have hM2 : 0 ≤ mostF (xs.take i) ∧ mostF (xs.take i) ≤ 1000 := ⟨mostF_ge.1, mostF_le.2 ⟨by omega, fun x hx => by have := HSM.out x (List.mem_of_mem_take hx); omega⟩⟩
      obtain ⟨q, hq⟩ : ∃ q, q = xs[i] := ⟨_, rfl⟩
      obtain ⟨M1, hM1⟩ : ∃ M, M = mostF (xs.take i) := ⟨_, rfl⟩
      obtain ⟨S1, hS1⟩ : ∃ M, M = (xs.take i).sum := ⟨_, rfl⟩
      rw [← hq] at d1 HT HS hb1
      rw [← hM1] at HT hM2 ⊢
      rw [← hS1] at HS hs0 hs1 ⊢
      have wi : IntKind.i64.wrap ((i : Int) + 1) = (i : Int) + 1 := IntWalk.i64_in _ (by omega)
      have ws : IntKind.i64.wrap (S1 + q) = S1 + q := IntWalk.i64_in _ (by omega)
      clear hq hM1 hS1 hlen
      go_wp2_with fail
      all_goals
        go_round
        case rel => exact ⟨i + 1, by go_num, by omega, by rw [HS.out], by rw [HT.out]; first | rfl | (congr 1; omega)⟩
        case measure => simp [intOf]; omega
    · have e : i = K := by omega
      subst e
      have hful : xs.take i = xs := List.take_of_length_le (by have := HK.out; omega)
      rw [hful, HSUM.out, ← HMO.out]
      go_wp2_with fail
      refine (lives_calls _).mono ?_
      rintro e w7 ⟨rfl, hB7⟩
      have HW := Lib.hid (HW.out.trans (hB7.mono HW.out.size))
      clear hB7
      go_wp2_with fail
      go_ret
      exact ⟨rfl, HW.out⟩
end Go.Proofs.Ytlidnhmagleehaa
