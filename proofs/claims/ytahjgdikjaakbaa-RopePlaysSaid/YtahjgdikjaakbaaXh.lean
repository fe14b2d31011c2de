/- What is proved: same: a tower shows what the model has. No condition beyond those in each statement. -/
import Derived.Test.YtahjgdikjaakbaaXf
import Derived.Test.YtahjgdikjaakbaaZN
import Derived.Deep.RegionHeld3
import Derived.Deep.CutRange
import Derived.Deep.RegionLaw
namespace Go.Proofs.Ytahjgdikjaakbaa
open Go.RowKit

/-- The tower and the reference's, behind something that only makes memory. -/
structure Js (w0 : World) (T : Nat) (t : TS) (X : Nat → Prop) (R : Nat) (l : List Cal) (m : RM) (w : World) : Prop where
  tw : Tw w T t X
  rl : RLow w R t l m
  bel : Below w0.heap.size w0 w
section
variable {w0 w w' : World} {T R : Nat} {t : TS} {X : Nat → Prop} {l : List Cal} {m : RM}
theorem Js.below (h : Js w0 T t X R l m w) (hb : Below w.heap.size w w') : Js w0 T t X R l m w' := ⟨h.tw.below hb, h.rl.below hb, h.bel.trans (hb.mono h.bel.size)⟩
theorem Js.drew (h : Js w0 T t X R l m w) : Js w0 T t X R l m w.drew := h.below (Below.refl _ _).drew
theorem row_sl {g n : Nat} {xs : List Int} (h : Row w 3 g 0 n (intsV xs)) (hn : xs.length = n) : Sl w (.slice (some ⟨g, 0, none⟩) n n) xs := by
  subst hn
  have hc : xs.length ≤ 9223372036854775807 := by
    obtain ⟨_, _, _, h1, _⟩ := h
    simpa [maxLen] using h1
  refine ⟨some ⟨g, 0, none⟩, xs.length, rfl, Nat.le_refl _, hc, (fun e => by cases e), fun _ => ⟨g, 0, rfl, h.lt, fun i hi => ?_⟩⟩
  rw [row_int h hi, List.getD_eq_getElem?_getD, List.getElem?_eq_getElem hi]
  rfl
set_option maxRecDepth 100000 in
set_option maxHeartbeats 8000000 in
theorem shows_calls {k : Nat} (h : Tw w T t X) (h2 : RLow w R t l m) (F : Flt l t) (hl : l.length ≤ 80000) (O : Ok t k) (hk : k ≤ 10000) :
    Calls Try.prog 29 #[.pointer (some ⟨T, 0, none⟩), .pointer (some ⟨R, 0, none⟩)] w fun e w' => e = .returned (.bool true) ∧ Below w.heap.size w w' := by
  have HJ : Hid (Js w T t X R l m w) := ⟨h, h2, Below.refl _ _⟩
  have HO := Lib.hid O
  have HF := Lib.hid F
  have hn6 := O.1.hn
  obtain ⟨n, hn⟩ : ∃ n, n = t.n := ⟨_, rfl⟩
  rw [← hn] at hn6
  have HN := Lib.hid hn
  have CIN : Hid (∀ w1 (st : Int), Js w T t X R l m w1 → Calls Try.prog 46 #[.pointer (some ⟨R, 0, none⟩), .int .i64 st] w1 fun e w' => ∃ p c, e = .returned (.slice p (thoseF t.mood st t.n).length c) ∧ Sl w' (.slice p (thoseF t.mood st t.n).length c) (thoseF t.mood st t.n) ∧ Js w T t X R l m w' ∧ Below w1.heap.size w1 w') := fun w1 st h1 => (refin_calls h1.rl HO.out.1 st).mono fun _ _ ⟨v, he, ho, hb⟩ => by
    obtain ⟨p, c, rfl, _, _⟩ := row_form ho
    exact ⟨p, c, he, ho.sl, h1.below hb, hb⟩
  clear h h2 O F hn
  go_enter Try.func29, Try.ntmps29
  go_wp2_with fail
  refine (CIN.out _ 2 HJ.out).mono ?_
  rintro e w1 ⟨p, c, rfl, hs, hj, _⟩
  have H1 := Lib.hid (And.intro hs hj)
  clear hs hj
  obtain ⟨L2, hL2⟩ : ∃ L2, L2 = thoseF t.mood 2 t.n := ⟨_, rfl⟩
  rw [← hL2] at H1 ⊢
  have HL2 := Lib.hid hL2
  clear hL2
  obtain ⟨M, hM⟩ : ∃ M, M = L2.length := ⟨_, rfl⟩
  rw [← hM] at H1 ⊢
  go_upto_if 13 with fail
  go_cut [5] from 9 to 101 (fun v5 wx => v5 = .int .i64 t.insI ∧ wx = w1)
  case first =>
    cases L2 with
    | nil =>
      have hM0 : M = 0 := hM
      subst hM0
      go_wp2_with fail
      go_meet
      case rel => exact ⟨by unfold TS.insI; rw [← HL2.out]; rfl, rfl⟩
    | cons x rest =>
      obtain ⟨A, c2, e, h3, h4, _, hrd⟩ := H1.out.1
      injection e with e1 e2 e3
      subst e1
      obtain ⟨b, o, rfl, hbl, hc⟩ := hrd (by simp)
      have c4 := hc 0 (by simp)
      rw [Nat.add_zero] at c4
      replace c4 : w1.cell? ⟨b, o, none⟩ = some (.int .i64 x) := c4
      have hM0 : 0 < M := by rw [hM]; simp
      have hd : decide (0 < M) = true := decide_eq_true hM0
      have zz : (0 : Int) ≤ 0 ∧ (0 : Int) < (M : Int) := by omega
      clear hM
      go_wp2_with fail
      go_meet
      case rel => exact ⟨by unfold TS.insI; rw [← HL2.out]; rfl, rfl⟩
  case rest =>
    obtain ⟨rfl, rfl⟩ := hcut
    rename World => w1
    have HJ1 := Lib.hid H1.out.2
    clear H1 HL2
    have CKT : Hid (∀ w1 (i : Int), Js w T t X R l m w1 → Calls Try.prog 26 #[.pointer (some ⟨T, 0, none⟩), .int .i64 i] w1 fun e w' => ∃ v, e = .returned v ∧ Sl w' v (t.kno i) ∧ Js w T t X R l m w' ∧ Below w1.heap.size w1 w') := fun w1 i h1 => (tw_known h1.tw i).mono fun _ _ ⟨v, he, ho, hb⟩ => ⟨v, he, ho.sl, h1.below hb, hb⟩
    have CSM : Hid (∀ w1 u v (xs : List Int), Sl w1 u xs → Sl w1 v xs → Js w T t X R l m w1 → Calls Try.prog 40 #[u, v] w1 fun e w' => e = .returned (.bool true) ∧ Js w T t X R l m w') := fun w1 u v xs hu hv h1 => by
      have := sameV hu hv
      rw [decide_eq_true rfl] at this
      exact this.mono fun _ _ ⟨he, hb⟩ => ⟨he, h1.below hb⟩
    obtain ⟨ii, hii⟩ : ∃ ii, ii = t.insI := ⟨_, rfl⟩
    rw [← hii]
    have HII := Lib.hid hii
    clear hii
    go_wp2_with fail
    go_loopw [7, 8] (fun v7 _ wr => ∃ i : Nat, v7 = .int .i64 ((i : Int) - 1) ∧ i ≤ n + 2 ∧ Hid (Js w T t X R l m wr)) (fun v7 _ _ => n + 3 - (intOf v7 + 1).toNat)
    case atStart => exact ⟨0, rfl, Nat.zero_le _, HJ1.out⟩
    case round =>
      obtain ⟨i, rfl, hi, HW⟩ := hrel
      have c0 : wr.cell? ⟨R, 0, none⟩ = some (.slice (some ⟨m.S, 0, none⟩) n n) := by rw [HN.out]; exact HW.out.rl.cells.1
      have wn : IntKind.i64.wrap ((n : Int) - 1) = (n : Int) - 1 := IntWalk.i64_in _ (by omega)
      obtain ⟨j, hj⟩ : ∃ j : Int, j = (i : Int) - 1 := ⟨_, rfl⟩
      rw [← hj]
      have wi : IntKind.i64.wrap (j + 1) = j + 1 := IntWalk.i64_in _ (by omega)
      have HJI := Lib.hid hj
      clear hj
      by_cases hlt : j ≤ n
      · have CI := Lib.hid (in_calls j 0 ((n : Int) - 1) (wr.alloc (.cells #[] 3)))
        rw [inB_there] at CI
        have hbA : Below wr.heap.size wr (wr.alloc (.cells #[] 3)) := (Below.refl _ _).alloc (Nat.le_refl _) _
        have HA := Lib.hid (HW.out.below hbA)
        have e0 : (wr.alloc (.cells #[] 3)).cell? ⟨R, 0, none⟩ = some (.slice (some ⟨m.S, 0, none⟩) n n) := by rw [HN.out]; exact HA.out.rl.cells.1
        have hjn : decide (j ≤ (n : Int)) = true := decide_eq_true hlt
        by_cases ht : thereB n j = true
        · rw [ht] at CI
          have hkj : t.kno j = t.known.getD j.toNat [] := by unfold TS.kno; rw [← HN.out, if_pos ht]
          obtain ⟨a, rfl, ha⟩ := thereB_out ht
          have hat : a < t.n := by rw [← HN.out]; exact ha
          rw [Int.toNat_natCast] at hkj
          have CK := Lib.hid (CKT.out _ (a : Int) HA.out)
          have e1 : (wr.alloc (.cells #[] 3)).cell? ⟨R, 1, none⟩ = some (.slice (some ⟨m.KB, 0, none⟩) n m.kc) := by rw [HN.out]; exact HA.out.rl.cells.2.1
          have e2 : (wr.alloc (.cells #[] 3)).cell? ⟨m.KB, a, none⟩ = some (.slice (some ⟨m.K a, 0, none⟩) n n) := by rw [HN.out]; exact HA.out.rl.cB hat
          have z1 : (0 : Int) ≤ (a : Int) ∧ (a : Int) < n := by omega
          have HK : Hid (Sl (wr.alloc (.cells #[] 3)) (.slice (some ⟨m.K a, 0, none⟩) n n) (t.kno a)) := by
            have := HA.out.rl.hK a hat
            rw [← HN.out] at this
            rw [hkj]
            exact row_sl this (by rw [HN.out]; exact HO.out.1.lki a hat)
          clear ht hkj
          go_wp2_with fail
          refine CI.out.mono ?_
          rintro e w2 ⟨rfl, rfl⟩
          go_wp2_with fail
          refine CK.out.mono ?_
          rintro e w3 ⟨v3, rfl, hs3, hj3, hb3⟩
          have CS := Lib.hid (CSM.out _ v3 (.slice (some ⟨m.K a, 0, none⟩) n n) _ hs3 (HK.out.below hb3) hj3)
          clear hs3 hj3 hb3 CK HK e1 e2
          go_wp2_with fail
          refine CS.out.mono ?_
          rintro e w4 ⟨rfl, hj4⟩
          have HJ4 := Lib.hid hj4
          clear hj4 CS
          go_wp2_with fail
          go_roundw
          case rel => exact ⟨i + 1, by have := HJI.out; congr 1; omega, by have := HJI.out; omega, HJ4.out⟩
          case measure => have := HJI.out; simp [intOf]; omega
        · have ht' : thereB n j = false := by simpa using ht
          rw [ht'] at CI
          have hkj : t.kno j = [] := by unfold TS.kno; rw [← HN.out, if_neg ht]
          have CK := Lib.hid (CKT.out _ j HA.out)
          rw [hkj] at CK
          have HK : Hid (Sl (wr.alloc (.cells #[] 3)) (.slice (some ⟨wr.heap.size, 0, none⟩) 0 0) []) := (ow_new wr 0 (Nat.zero_le _)).sl
          clear ht hkj
          go_wp2_with fail
          refine CI.out.mono ?_
          rintro e w2 ⟨rfl, rfl⟩
          go_wp2_with fail
          refine CK.out.mono ?_
          rintro e w3 ⟨v3, rfl, hs3, hj3, hb3⟩
          have CS := Lib.hid (CSM.out _ v3 (.slice (some ⟨wr.heap.size, 0, none⟩) 0 0) _ hs3 (HK.out.below hb3) hj3)
          clear hs3 hj3 hb3 CK HK
          go_wp2_with fail
          refine CS.out.mono ?_
          rintro e w4 ⟨rfl, hj4⟩
          have HJ4 := Lib.hid hj4
          clear hj4 CS
          go_wp2_with fail
          go_roundw
          case rel => exact ⟨i + 1, by have := HJI.out; congr 1; omega, by have := HJI.out; omega, HJ4.out⟩
          case measure => have := HJI.out; simp [intOf]; omega
      · clear CKT
        have hi2 : i = n + 2 := by have := HJI.out; omega
        obtain ⟨p3, c3, hqv, _, _⟩ := row_form HJ.out.rl.hQ
        obtain ⟨hd, hhd⟩ : ∃ hd, hd = t.holder := ⟨_, rfl⟩
        obtain ⟨sn, hsn⟩ : ∃ sn, sn = t.sent := ⟨_, rfl⟩
        have HS : Hid (∀ w', Js w T t X R l m w' → w'.cell? ⟨R, 4, none⟩ = some (.int .i64 hd) ∧ w'.cell? ⟨R, 3, none⟩ = some (.slice p3 t.queue.length c3) ∧ w'.cell? ⟨R, 2, none⟩ = some (.slice (some ⟨m.SV, 0, none⟩) n n) ∧ w'.cell? ⟨R, 6, none⟩ = some (.int .i64 sn) ∧ Js w T t X R l m w') := fun w' h' => by
          obtain ⟨_, _, k2, k3, k4, _, k6⟩ := h'.rl.cells
          rw [hhd, hsn, HN.out, ← hqv]
          exact ⟨k4, k3, k2, k6, h'⟩
        have D18 : Hid (∀ w1, Js w T t X R l m w1 → Calls Try.prog 18 #[.pointer (some ⟨T, 0, none⟩)] w1 fun e w' => e = .returned (.int .i64 ii) ∧ Js w T t X R l m w') := fun w1 h1 => by
          rw [HII.out]
          exact (tw_inside h1.tw).mono fun _ _ ⟨he, hb⟩ => ⟨he, h1.below hb⟩
        have D17 : Hid (∀ w1, Js w T t X R l m w1 → Calls Try.prog 17 #[.pointer (some ⟨T, 0, none⟩)] w1 fun e w' => e = .returned (.int .i64 hd) ∧ w1 = w') := fun w1 h1 => by rw [hhd]; exact tw_holder h1.tw
        have D22 : Hid (∀ w1, Js w T t X R l m w1 → Calls Try.prog 22 #[.pointer (some ⟨T, 0, none⟩)] w1 fun e w' => e = .returned (.int .i64 sn) ∧ w1 = w') := fun w1 h1 => by rw [hsn]; exact tw_sent h1.tw
        have DL : Hid (∀ (F : Nat) (xs : List Int), ((F = 21 ∧ xs = t.wai) ∨ (F = 24 ∧ xs = t.queue) ∨ (F = 25 ∧ xs = t.served)) → ∀ w1, Js w T t X R l m w1 → Calls Try.prog F #[.pointer (some ⟨T, 0, none⟩)] w1 fun e w' => ∃ v, e = .returned v ∧ Sl w' v xs ∧ Js w T t X R l m w') := by
          rintro F xs (⟨rfl, rfl⟩ | ⟨rfl, rfl⟩ | ⟨rfl, rfl⟩) w1 h1
          · exact (tw_waiting h1.tw).mono fun _ _ ⟨v, he, ho, hb⟩ => ⟨v, he, ho.sl, h1.below hb⟩
          · exact (tw_queue h1.tw HO.out.1).mono fun _ _ ⟨v, he, ho, hb⟩ => ⟨v, he, ho.sl, h1.below hb⟩
          · exact (tw_served h1.tw HO.out.1).mono fun _ _ ⟨v, he, ho, hb⟩ => ⟨v, he, ho.sl, h1.below hb⟩
        have DI : Hid (∀ w1 v0, Js w T t X R l m w1 → Sl w1 v0 t.wai → Calls Try.prog 46 #[.pointer (some ⟨R, 0, none⟩), .int .i64 1] w1 fun e w' => ∃ v, e = .returned v ∧ (Sl w' v t.wai ∧ Sl w' v0 t.wai) ∧ Js w T t X R l m w') := fun w1 v0 h1 h0 => (CIN.out w1 1 h1).mono fun _ _ ⟨p, c, he, ho, hj, hb⟩ => ⟨_, he, ⟨ho, h0.below hb⟩, hj⟩
        have DF : Hid (∀ w1, Js w T t X R l m w1 → Calls Try.prog 16 #[.pointer (some ⟨T, 0, none⟩)] w1 fun e w' => ∃ v, e = .returned v ∧ OwC w' 0 v t.cals ∧ Js w T t X R l m w') := fun w1 h1 => (tw_flight h1.tw HO.out.2 hk).mono fun _ _ ⟨v, he, ho, hb⟩ => ⟨v, he, ho.mono (Nat.zero_le _), h1.below hb⟩
        have DC : Hid (∀ w1 v0, Js w T t X R l m w1 → OwC w1 0 v0 t.cals → Calls Try.prog 36 #[.pointer (some ⟨R, 0, none⟩)] w1 fun e w' => ∃ v, e = .returned v ∧ (OwC w' 0 v t.cals ∧ OwC w' 0 v0 t.cals) ∧ Js w T t X R l m w') := fun w1 v0 h1 h0 => (refcalls_calls h1.rl HF.out HO.out.1.hn.2 hl (by rw [cals_len]; have := HO.out.2.tt; have := HO.out.2.s0; omega)).mono fun _ _ ⟨v, he, ho, hb⟩ => ⟨v, he, ⟨ho.mono (Nat.zero_le _), h0.below hb⟩, h1.below hb⟩
        have DV : Hid (∀ w1 u v, OwC w1 0 u t.cals → OwC w1 0 v t.cals → Js w T t X R l m w1 → Calls Try.prog 47 #[u, v] w1 fun e w' => e = .returned (.bool true) ∧ Js w T t X R l m w') := fun w1 u v hu hv h1 => (callsV hu hv).mono fun _ _ ⟨he, hb⟩ => ⟨he, h1.below hb⟩
        have DQ : Hid (∀ w1 u, Sl w1 u t.queue → Js w T t X R l m w1 → Calls Try.prog 40 #[u, .slice p3 t.queue.length c3] w1 fun e w' => e = .returned (.bool true) ∧ Js w T t X R l m w') := fun w1 u hu h1 => by
          have := h1.rl.hQ.sl
          rw [hqv] at this
          exact CSM.out w1 u _ _ hu this h1
        have DSV : Hid (∀ w1 u, Sl w1 u t.served → Js w T t X R l m w1 → Calls Try.prog 40 #[u, .slice (some ⟨m.SV, 0, none⟩) n n] w1 fun e w' => e = .returned (.bool true) ∧ Js w T t X R l m w') := fun w1 u hu h1 => by
          have := h1.rl.hV
          rw [← HN.out] at this
          exact CSM.out w1 u _ _ hu (row_sl this (by rw [HN.out]; exact HO.out.1.ls)) h1
        clear hhd hsn hqv CIN
        go_wp2_with fail
        go_region_held3 (fun w' => w'.cell? ⟨R, 4, none⟩ = some (.int .i64 hd) ∧ w'.cell? ⟨R, 3, none⟩ = some (.slice p3 t.queue.length c3) ∧ w'.cell? ⟨R, 2, none⟩ = some (.slice (some ⟨m.SV, 0, none⟩) n n) ∧ w'.cell? ⟨R, 6, none⟩ = some (.int .i64 sn) ∧ Js w T t X R l m w')
          ((first | exact HS.out _ HW.out.drew | exact HS.out _ (by assumption) | exact HS.out _ (Js.drew (by assumption))))
          ((first
            | (go_at_call 18; (with_reducible refine (D18.out _ (by first | assumption | exact HW.out.drew | exact Js.drew (by assumption))).mono ?_); rintro e wa ⟨rfl, hja⟩)
            | (go_at_call 17; (with_reducible refine (D17.out _ (by first | assumption | exact HW.out.drew | exact Js.drew (by assumption))).mono ?_); rintro e wb ⟨rfl, rfl⟩)
            | (go_at_call 21; (with_reducible refine (DL.out 21 t.wai (.inl ⟨rfl, rfl⟩) _ (by first | assumption | exact HW.out.drew | exact Js.drew (by assumption))).mono ?_); rintro e wc ⟨v21, rfl, hs21, hj21⟩)
            | (go_at_call 46; (with_reducible refine (DI.out _ v21 (by first | assumption | exact HW.out.drew | exact Js.drew (by assumption)) hs21).mono ?_); rintro e wd ⟨v46, rfl, hs46, hj46⟩)
            | (go_at_call 40; (with_reducible refine (CSM.out _ v21 v46 _ hs46.2 hs46.1 (by first | assumption | exact HW.out.drew | exact Js.drew (by assumption))).mono ?_); rintro e we ⟨rfl, hj40⟩)
            | (go_at_call 24; (with_reducible refine (DL.out 24 t.queue (.inr (.inl ⟨rfl, rfl⟩)) _ (by first | assumption | exact HW.out.drew | exact Js.drew (by assumption))).mono ?_); rintro e wf ⟨v24, rfl, hs24, hj24⟩)
            | (go_at_call 40; (with_reducible refine (DQ.out _ v24 hs24 (by first | assumption | exact HW.out.drew | exact Js.drew (by assumption))).mono ?_); rintro e wg ⟨rfl, hjq⟩)
            | (go_at_call 25; (with_reducible refine (DL.out 25 t.served (.inr (.inr ⟨rfl, rfl⟩)) _ (by first | assumption | exact HW.out.drew | exact Js.drew (by assumption))).mono ?_); rintro e wh ⟨v25, rfl, hs25, hj25⟩)
            | (go_at_call 40; (with_reducible refine (DSV.out _ v25 hs25 (by first | assumption | exact HW.out.drew | exact Js.drew (by assumption))).mono ?_); rintro e wi ⟨rfl, hjs⟩)
            | (go_at_call 16; (with_reducible refine (DF.out _ (by first | assumption | exact HW.out.drew | exact Js.drew (by assumption))).mono ?_); rintro e wj ⟨v16, rfl, ho16, hj16⟩)
            | (go_at_call 36; (with_reducible refine (DC.out _ v16 (by first | assumption | exact HW.out.drew | exact Js.drew (by assumption)) ho16).mono ?_); rintro e wk ⟨v36, rfl, ho36, hj36⟩)
            | (go_at_call 47; (with_reducible refine (DV.out _ v16 v36 ho36.2 ho36.1 (by first | assumption | exact HW.out.drew | exact Js.drew (by assumption))).mono ?_); rintro e wl ⟨rfl, hj47⟩)
            | (go_at_call 22; (with_reducible refine (D22.out _ (by first | assumption | exact HW.out.drew | exact Js.drew (by assumption))).mono ?_); rintro e wm ⟨rfl, rfl⟩)))
        rename_i wl hj47 _
        have hbel := Lib.hid hj47.bel
        clear hj47
        go_wp2_with fail
        go_ret
        exact ⟨rfl, hbel.out⟩
end
end Go.Proofs.Ytahjgdikjaakbaa
