/- What is proved: RopeQueue. No condition beyond those in each statement. -/
import Derived.Test.YtahjgdikjaakbaaZD
namespace Go.Proofs.Ytahjgdikjaakbaa
open Go.RowKit

def RiseOk (n : Nat) (xs : List Int) : Prop := ∀ i, i < xs.length → (0 ≤ xs.getD i 0 ∧ xs.getD i 0 < n) ∧ (0 < i → xs.getD (i - 1) 0 < xs.getD i 0)
theorem thoseF_rise (ms : List Int) (m : Int) (k : Nat) : RiseOk k (thoseF ms m k) := by
  induction k with
  | zero => intro i hi; exact absurd hi (Nat.not_lt_zero i)
  | succ k ih =>
    unfold thoseF
    split
    · intro i hi
      rw [List.length_append, List.length_singleton] at hi
      by_cases e : i = (thoseF ms m k).length
      · subst e
        have h1 : (thoseF ms m k ++ [(k : Int)]).getD (thoseF ms m k).length 0 = k := by simp [List.getD_eq_getElem?_getD]
        rw [h1]
        refine ⟨by omega, fun h0 => ?_⟩
        have h2 : (thoseF ms m k ++ [(k : Int)]).getD ((thoseF ms m k).length - 1) 0 = (thoseF ms m k).getD ((thoseF ms m k).length - 1) 0 := by
          rw [List.getD_eq_getElem?_getD, List.getElem?_append_left (by omega), ← List.getD_eq_getElem?_getD]
        rw [h2]
        exact (ih _ (by omega)).1.2
      · have h2 : ∀ j, j ≤ i → (thoseF ms m k ++ [(k : Int)]).getD j 0 = (thoseF ms m k).getD j 0 := fun j hj => by
          rw [List.getD_eq_getElem?_getD, List.getElem?_append_left (by omega), ← List.getD_eq_getElem?_getD]
        rw [h2 i (Nat.le_refl _), h2 (i - 1) (by omega)]
        obtain ⟨h3, h4⟩ := ih i (by omega)
        exact ⟨⟨h3.1, by omega⟩, h4⟩
    · intro i hi
      obtain ⟨h3, h4⟩ := ih i hi
      exact ⟨⟨h3.1, by omega⟩, h4⟩
set_option maxRecDepth 100000 in
set_option maxHeartbeats 4000000 in
theorem rising_calls {w : World} {n N : Nat} {v : Value} {xs : List Int} (h : SlN w N v xs) (hN : N = xs.length) (hr : RiseOk n xs) (hn : n ≤ 6) : Calls Try.prog 27 #[.int .i64 n, v] w fun e w' => e = .returned (.bool true) ∧ Below w.heap.size w w' := by
  obtain ⟨A, c, rfl, h1, h2, h3⟩ := h
  have H3 := Lib.hid h3
  have HR := Lib.hid hr
  have HN := Lib.hid hN
  have CI : Hid (∀ v lo hi w, inB v lo hi = true → Calls Try.prog 19 #[.int .i64 v, .int .i64 lo, .int .i64 hi] w fun e w' => e = .returned (.bool true) ∧ w = w') := fun v lo hi w h => by have := in_calls v lo hi w; rw [h] at this; exact this
  have hN63 : (N : Int) ≤ 9223372036854775807 := by omega
  clear h3 hr hN
  go_enter Try.func27, Try.ntmps27
  go_wp2_with fail
  go_loopw [5] (fun v wr => ∃ i : Nat, v = .int .i64 i ∧ i ≤ N ∧ Hid (Below w.heap.size w wr)) (fun v _ => N - (intOf v).toNat)
  case atStart => exact ⟨0, rfl, Nat.zero_le _, Below.refl _ _⟩
  case round =>
    obtain ⟨i, rfl, hi, HB⟩ := hrel
    by_cases hlt : i < N
    · obtain ⟨b, o, rfl, hb, hc⟩ := H3.out i hlt
      have d1 := (HB.out.cell (p := ⟨b, o + i, none⟩) hb).trans hc
      obtain ⟨r1, r2⟩ := HR.out i (by rw [← HN.out]; exact hlt)
      obtain ⟨x, hx⟩ : ∃ x, x = xs.getD i 0 := ⟨_, rfl⟩
      rw [← hx] at r1 r2 d1
      have CB : Hid (inB x 0 ((n : Int) - 1) = true) := by
        unfold inB
        show _ = _
        rw [decide_eq_true (by omega), decide_eq_true (by omega)]; rfl
      have z1 : (0 : Int) ≤ (i : Int) ∧ (i : Int) < N := by omega
      have ws : IntKind.i64.wrap ((n : Int) - 1) = (n : Int) - 1 := IntWalk.i64_in _ (by omega)
      by_cases h0 : 0 < i
      · obtain ⟨b2, o2, e2, _, hc2⟩ := H3.out (i - 1) (by omega)
        cases e2
        have d2 := (HB.out.cell (p := ⟨b, o + (i - 1), none⟩) hb).trans hc2
        have r3 := r2 h0
        obtain ⟨y, hy⟩ : ∃ y, y = xs.getD (i - 1) 0 := ⟨_, rfl⟩
        rw [← hy] at d2 r3
        obtain ⟨j, rfl⟩ : ∃ j, i = j + 1 := ⟨i - 1, by omega⟩
        have q1 : ¬ x ≤ y := by omega
        rw [Nat.add_sub_cancel] at d2
        clear hc hc2 hx hy r2 r3 h0
        go_wp2_with fail
        go_quiet ((go_at_call 19; exact Calls.quiet_of_same ((CI.out _ _ _ _ CB.out).mono fun e w' h => ⟨h.1, h.2.symm⟩)))
        go_wp2_with fail
        go_roundw
        case rel => exact ⟨j + 1 + 1, by go_num, by omega, below_drewN HB.out _⟩
        case measure => simp [intOf]; omega
      · have hi0 : i = 0 := by omega
        subst hi0
        rw [Nat.add_zero] at d1
        clear hc hx r2 h0
        go_wp2_with fail
        go_quiet ((go_at_call 19; exact Calls.quiet_of_same ((CI.out _ _ _ _ CB.out).mono fun e w' h => ⟨h.1, h.2.symm⟩)))
        go_wp2_with fail
        go_roundw
        case rel => exact ⟨1, by go_num, by omega, below_drewN HB.out _⟩
        case measure => simp [intOf]; omega
    · have hin : i = N := by omega
      subst hin
      go_wp2_with fail
      go_ret
      exact ⟨rfl, HB.out⟩
theorem que_facts {t : TS} (I : Inv t) : (∀ k, k < t.queue.length → (t.wai.any fun u => u == t.queue.getD k 0) = true ∧ ((t.queue.take k).any fun u => u == t.queue.getD k 0) = false) ∧ t.queue.length ≤ 6 := by
  have hn := I.hn
  have hl := nodup_len t.n t.queue I.qn (fun x hx => by obtain ⟨a, e, ha, _⟩ := I.qm x hx; exact ⟨a, e, ha⟩)
  refine ⟨fun k hk => ?_, by omega⟩
  have hg : t.queue.getD k 0 = t.queue[k] := getD_lt _ () hk
  constructor
  · obtain ⟨a, e, ha, hm⟩ := I.qm t.queue[k] (List.getElem_mem hk)
    rw [List.any_eq_true]
    exact ⟨t.queue[k], (wai_mem t _).2 ⟨a, ha, e, hm⟩, by rw [hg]; simp⟩
  · refine hasB_false fun h => ?_
    rw [hg] at h
    obtain ⟨j, hj, e⟩ := List.mem_iff_getElem.1 h
    rw [List.length_take] at hj
    rw [List.getElem_take] at e
    have hnd := I.qn
    have := (List.getElem_inj hnd).1 e
    omega
def QuK (w : World) (T n i : Nat) (t : TS) (w3 : World) (M : Nat) (v : Value) (wr : World) : Prop := ∃ k : Nat, v = .int .i64 k ∧ k ≤ M ∧ LawI w T n i t wr ∧ Below w3.heap.size w3 wr
set_option maxRecDepth 100000 in
set_option maxHeartbeats 8000000 in
theorem queue_law_calls (x y : Int) (A : Option Addr) (L c : Nat) (xs : List Int) (w : World) (hx : 0 ≤ x ∧ x ≤ 255) (hy : 0 ≤ y ∧ y ≤ 255) (hL : L = xs.length) (hA : RdU w A xs) (_hl : L ≤ c) (hc : c ≤ 9223372036854775807) (hxs : ∀ b ∈ xs, 0 ≤ b ∧ b ≤ 255) :
    Calls Try.prog 7 #[.agg #[.int .u8 x, .int .u8 y], .slice A L c] w fun e w' => e = .returned (.bool true) ∧ Below w.heap.size w w' := by
  obtain ⟨n, hn⟩ : ∃ n, n = mdN x := ⟨_, rfl⟩
  have CM : Hid (Calls Try.prog 13 #[.agg #[.int .u8 x, .int .u8 y]] (w.alloc (.cells #[.int .u8 x, .int .u8 y] 22)) fun e w' => ∃ T, e = .returned (.tuple #[.pointer (some ⟨T, 0, none⟩), .int .i64 n]) ∧ On w T (mdT x y) w') := by rw [hn]; exact tmade_calls w _ ((Below.refl _ _).alloc (Nat.le_refl _) _) x y hx hy
  have hn6 : 1 ≤ n ∧ n ≤ 6 := by rw [hn]; exact (md_ok x y).1
  have CL := Lib.hid (fun w1 => lives_calls w1)
  have HA := Lib.hid hA
  have HL := Lib.hid hL
  have HXS := Lib.hid hxs
  have HM : Hid (Ok (mdT x y) 0 ∧ (mdT x y).n = n) := ⟨mdT_ok x y, hn.symm⟩
  have hLc : (L : Int) ≤ 9223372036854775807 := by omega
  clear hA hL hxs hn
  go_enter Try.func7, Try.ntmps7
  go_wp2_with fail
  refine CM.out.mono ?_
  rintro e w1 ⟨T, rfl, ho⟩
  have HO := Lib.hid ho
  clear ho CM
  go_wp2_with fail
  refine (CL.out _).mono ?_
  rintro e w2 ⟨rfl, hb⟩
  have HO2 := Lib.hid (HO.out.below hb)
  clear hb CL HO
  go_wp2_with fail
  go_loopw [7] (fun v7 wr => ExI w T n v7 wr) (fun v7 _ => L - (intOf v7).toNat)
  case atStart => exact ⟨0, mdT x y, rfl, HO2.out, HM.out.1, HM.out.2⟩
  case round =>
    obtain ⟨i, t, rfl, hlaw⟩ := hrel
    have HLAW := Lib.hid hlaw
    by_cases hcond : i < L ∧ i < 150
    · obtain ⟨h1, h2⟩ := hcond
      have hil : i < xs.length := by have := HL.out; omega
      obtain ⟨b, o, rfl, hb, hcell⟩ := HA.out.at i hil
      have d1 := (hlaw.on.bel.cell (p := ⟨b, o + i, none⟩) hb).trans hcell
      have hxi := HXS.out xs[i] (List.getElem_mem hil)
      obtain ⟨xi, hxi2⟩ : ∃ xi, xi = xs[i] := ⟨_, rfl⟩
      rw [← hxi2] at d1 hxi
      have CA := Lib.hid (hlaw.act (by omega) xi hxi)
      have b1 : (0 : Int) ≤ i ∧ (i : Int) < L := by omega
      obtain ⟨r, hr⟩ : ∃ r, r = t.actB xi := ⟨_, rfl⟩
      rw [← hr] at CA
      clear hlaw hcell hb hxi2 hxi hr
      go_wp2_with fail
      refine CA.out.mono ?_
      rintro e w3 ⟨rfl, hlaw⟩
      obtain ⟨t', ht'⟩ : ∃ t', t' = t.act xi := ⟨_, rfl⟩
      rw [← ht'] at hlaw
      have CQ := Lib.hid (on_queue hlaw.on hlaw.ok)
      have CW : Hid (∀ w1, LawI w T n (i + 1) t' w1 → Calls Try.prog 21 #[.pointer (some ⟨T, 0, none⟩)] w1 fun e w' => ∃ v, e = .returned v ∧ Sl w' v t'.wai ∧ LawI w T n (i + 1) t' w' ∧ Below w1.heap.size w1 w') := fun w1 hw1 => (on_waiting hw1.on).mono fun _ _ ⟨v, he, ho, _, hb⟩ => ⟨v, he, ho.sl, hw1.below hb, hb⟩
      have HLW := Lib.hid hlaw
      clear hlaw CA ht' d1
      go_wp2_with fail
      refine CQ.out.mono ?_
      rintro e w4 ⟨v, rfl, ho, _, hb4⟩
      have HL4 := Lib.hid (HLW.out.below hb4)
      have HQ4 := Lib.hid ho.sl
      clear ho hb4 CQ HLW
      go_wp2_with fail
      refine (CW.out _ HL4.out).mono ?_
      rintro e w5 ⟨v5, rfl, hs5, hl5, hb5⟩
      obtain ⟨M, hM⟩ : ∃ M, M = t'.queue.length := ⟨_, rfl⟩
      have hq5 := (HQ4.out.below hb5).n hM.symm
      obtain ⟨N, hN⟩ : ∃ N, N = t'.wai.length := ⟨_, rfl⟩
      have hR : RiseOk n t'.wai := by
        have h9 := thoseF_rise t'.mood 1 t'.n
        have e9 := hl5.n
        show RiseOk n (thoseF t'.mood 1 t'.n)
        rw [e9] at h9 ⊢
        exact h9
      have CR := Lib.hid (rising_calls (hs5.n hN.symm) hN hR hn6.2)
      obtain ⟨hqf, hM6⟩ := que_facts hl5.ok.1
      rw [← hM] at hqf hM6
      have HQF := Lib.hid hqf
      obtain ⟨Q, cq, rfl, hcq, hcq2, hqc⟩ := hq5
      have HQC := Lib.hid hqc
      have HWS := Lib.hid hs5
      have HL5 := Lib.hid hl5
      have HMM := Lib.hid hM
      clear hs5 hl5 hb5 hM hN hR hqf hqc HQ4 HL4 CW
      go_wp2_with fail
      refine CR.out.mono ?_
      rintro e w6 ⟨rfl, hb6⟩
      have HL6 := Lib.hid (HL5.out.below hb6)
      have HB6 := Lib.hid hb6
      clear hb6 CR
      go_wp2_with fail
      go_loopw [10] (fun v10 wr => QuK w T n (i + 1) t' w5 M v10 wr) (fun v10 _ => M - (intOf v10).toNat)
      case atStart => exact ⟨0, rfl, Nat.zero_le _, HL6.out, HB6.out⟩
      case round =>
        obtain ⟨k, rfl, hk, hlk, hbk⟩ := hrel
        have HLK := Lib.hid hlk
        have HBK := Lib.hid hbk
        by_cases hkl : k < M
        · obtain ⟨b7, o7, rfl, hb7, hc7⟩ := HQC.out k hkl
          have d7 := (hbk.cell (p := ⟨b7, o7 + k, none⟩) hb7).trans hc7
          obtain ⟨f1, f2⟩ := HQF.out k hkl
          have CH1 : Hid (∀ q, Calls Try.prog 20 #[v5, .int .i64 (t'.queue.getD k 0)] (wr.drewN q) fun e w' => e = .returned (.bool true) ∧ ∃ m, w' = wr.drewN m) := fun q => by
            have := hasV (HWS.out.below (Below.drewN2 (n := q) hbk)) (t'.queue.getD k 0)
            rw [f1] at this
            exact Calls.quiet_of_same (this.mono fun e w' h => ⟨h.1, h.2.symm⟩)
          have CH2 : Hid (∀ q, Calls Try.prog 20 #[.slice (some ⟨b7, o7, none⟩) k cq, .int .i64 (t'.queue.getD k 0)] (wr.drewN q) fun e w' => e = .returned (.bool false) ∧ ∃ m, w' = wr.drewN m) := fun q => by
            have hrd : Rd (wr.drewN q) (some ⟨b7, o7, none⟩) (t'.queue.take k) := fun hne => by
              refine ⟨b7, o7, rfl, Nat.lt_of_lt_of_le hb7 hbk.size, fun j hj => ?_⟩
              rw [List.length_take] at hj
              obtain ⟨b8, o8, e8, _, hc8⟩ := HQC.out j (by omega)
              cases e8
              rw [List.getElem_take, ← getD_lt (l := t'.queue) 0 () (by rw [← HMM.out]; omega)]
              exact (hbk.cell (p := ⟨b7, o7 + j, none⟩) hb7).trans hc8
            have := has_calls (some ⟨b7, o7, none⟩) k cq (t'.queue.take k) (t'.queue.getD k 0) (wr.drewN q) (by rw [List.length_take, ← HMM.out]; omega) hrd (by omega) hcq2
            rw [f2] at this
            exact Calls.quiet_of_same (this.mono fun e w' h => ⟨h.1, h.2.symm⟩)
          have z1 : (0 : Int) ≤ (k : Int) ∧ (k : Int) < M ∧ (M : Int) ≤ cq := by omega
          obtain ⟨qk, hqk⟩ : ∃ qk, qk = t'.queue.getD k 0 := ⟨_, rfl⟩
          rw [← hqk] at d7 CH1 CH2
          clear hlk hbk hc7 f1 f2 hqk hb7
          go_wp2_with fail
          go_quiet ((first | (go_at_call 20; with_reducible exact CH1.out _) | (go_at_call 20; with_reducible exact CH2.out _)))
          go_wp2_with fail
          go_roundw
          case rel => exact ⟨k + 1, by go_num, by omega, HLK.out.below (below_drewN (Below.refl _ _) _), below_drewN HBK.out _⟩
          case measure => simp [intOf]; omega
        · have hkn : k = M := by omega
          subst hkn
          clear hlk hbk
          go_wp2_with fail
          exact ⟨⟨i + 1, t', by go_num, HLK.out⟩, by simp [intOf]; omega⟩
    · clear hlaw
      by_cases h1 : i < L
      · have h2 : ¬ i < 150 := fun h => hcond ⟨h1, h⟩
        clear hcond
        go_wp2_with fail
        go_ret
        exact ⟨rfl, HLAW.out.on.bel⟩
      · clear hcond
        go_wp2_with fail
        go_ret
        exact ⟨rfl, HLAW.out.on.bel⟩
end Go.Proofs.Ytahjgdikjaakbaa
