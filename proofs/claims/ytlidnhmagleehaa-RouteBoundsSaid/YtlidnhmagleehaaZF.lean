/- What is proved: the reference's bound. No condition beyond those in each statement. -/
import Derived.Test.YtlidnhmagleehaaZE
import Derived.Test.YtlidnhmagleehaaPe
namespace Go.Proofs.Ytlidnhmagleehaa
open Go.RowKit

theorem bits_or_small (a b : Nat) (ha : a < 4294967296) (hb : b < 4294967296) : bits .or .i64 (a : Int) (b : Int) = ((a ||| b : Nat) : Int) := by
  have hx : a ||| b < 2 ^ 32 := Nat.or_lt_two_pow (by omega) (by omega)
  have h1 : (BitVec.ofInt 64 (a : Int)).toNat = a := by
    rw [BitVec.ofInt_natCast, BitVec.toNat_ofNat]; exact Nat.mod_eq_of_lt (by omega)
  have h2 : (BitVec.ofInt 64 (b : Int)).toNat = b := by
    rw [BitVec.ofInt_natCast, BitVec.toNat_ofNat]; exact Nat.mod_eq_of_lt (by omega)
  show IntKind.i64.wrap ((BitVec.ofInt 64 (a : Int) ||| BitVec.ofInt 64 (b : Int)).toNat : Int) = _
  rw [BitVec.toNat_or, h1, h2]
  exact IntWalk.i64_in _ (by omega)
theorem bits_and_small (a b : Nat) (ha : a < 4294967296) (hb : b < 4294967296) : bits .and .i64 (a : Int) (b : Int) = ((a &&& b : Nat) : Int) := by
  have hx : a &&& b < 2 ^ 32 := Nat.and_lt_two_pow _ (by omega)
  have h1 : (BitVec.ofInt 64 (a : Int)).toNat = a := by
    rw [BitVec.ofInt_natCast, BitVec.toNat_ofNat]; exact Nat.mod_eq_of_lt (by omega)
  have h2 : (BitVec.ofInt 64 (b : Int)).toNat = b := by
    rw [BitVec.ofInt_natCast, BitVec.toNat_ofNat]; exact Nat.mod_eq_of_lt (by omega)
  show IntKind.i64.wrap ((BitVec.ofInt 64 (a : Int) &&& BitVec.ofInt 64 (b : Int)).toNat : Int) = _
  rw [BitVec.toNat_and, h1, h2]
  exact IntWalk.i64_in _ (by omega)
theorem bit_test (r a c : Nat) (hr : r < 256) : bits .and .i64 (bits .or .i64 ((r : Int) / 2 ^ a) ((r : Int) / 2 ^ c)) 1 = if (r.testBit a || r.testBit c) = true then 1 else 0 := by
  have e1 : (r : Int) / 2 ^ a = ((r / 2 ^ a : Nat) : Int) := by simp
  have e2 : (r : Int) / 2 ^ c = ((r / 2 ^ c : Nat) : Int) := by simp
  have l1 : r / 2 ^ a ≤ r := Nat.div_le_self _ _
  have l2 : r / 2 ^ c ≤ r := Nat.div_le_self _ _
  have l3 : r / 2 ^ a ||| r / 2 ^ c < 2 ^ 8 := Nat.or_lt_two_pow (by omega) (by omega)
  rw [e1, e2, bits_or_small _ _ (by omega) (by omega), show (1 : Int) = ((1 : Nat) : Int) from rfl, bits_and_small _ _ (by omega) (by omega)]
  have h0 : (r / 2 ^ a ||| r / 2 ^ c).testBit 0 = (r.testBit a || r.testBit c) := by
    rw [Nat.testBit_or, Nat.testBit_div_two_pow, Nat.testBit_div_two_pow, Nat.zero_add, Nat.zero_add]
  rw [Nat.and_one_is_mod]
  rw [Nat.testBit_zero] at h0
  rw [← h0]
  by_cases h : (r / 2 ^ a ||| r / 2 ^ c) % 2 = 1
  · rw [h]; simp
  · have h2 : (r / 2 ^ a ||| r / 2 ^ c) % 2 = 0 := by omega
    rw [h2]; simp
theorem bit_more (x a c : Nat) (hx : x < 256) (ha : a < 8) (hc : c < 8) : bits .or .i64 (x : Int) (bits .or .i64 (2 ^ a) (2 ^ c)) = ((x ||| (2 ^ a ||| 2 ^ c) : Nat) : Int) := by
  have p1 : (2 : Nat) ^ a < 2 ^ 8 := Nat.pow_lt_pow_right (by omega) ha
  have p2 : (2 : Nat) ^ c < 2 ^ 8 := Nat.pow_lt_pow_right (by omega) hc
  have e1 : (2 : Int) ^ a = ((2 ^ a : Nat) : Int) := by simp
  have e2 : (2 : Int) ^ c = ((2 ^ c : Nat) : Int) := by simp
  have l3 : 2 ^ a ||| 2 ^ c < 2 ^ 8 := Nat.or_lt_two_pow p1 p2
  rw [e1, e2, bits_or_small _ _ (by omega) (by omega), bits_or_small _ _ (by omega) (by omega)]
theorem pow_wrap (a : Nat) (ha : a ≤ 8) : IntKind.i64.wrap (2 ^ a) = (2 : Int) ^ a := by
  have h : ∀ a : Nat, a ≤ 8 → IntKind.i64.wrap (2 ^ a) = (2 : Int) ^ a := by decide +kernel
  exact h a ha
def RBndI (w : World) (k : Nat) (es : List (Int × Int)) (s5 s6 q : Value) (wr : World) : Prop :=
  ∃ v D d : Nat, q = .int .i64 v ∧ v ≤ k ∧ s5 = .int .i64 D ∧ s6 = .int .i64 d ∧ D ≤ k ∧ d ≤ k ∧ (0 < v → 0 < D ∧ 2 ≤ k) ∧ Hid (bndGo k es (List.range k) 0 0 = bndGo k es ((List.range k).drop v) D d) ∧ Hid (Below w.heap.size w wr)
def RRndI (w : World) (k : Nat) (es : List (Int × Int)) (v D : Nat) (s5 s8 q : Value) (wr : World) : Prop :=
  ∃ t r D' : Nat, q = .int .i64 ((t : Int) + 1) ∧ t ≤ k ∧ s8 = .int .i64 r ∧ s5 = .int .i64 D' ∧ D' = max D (lastF k es v t) ∧ Hid (MaskOk k r (ballF k es v t)) ∧ Hid (Below w.heap.size w wr)
def RMidI (w : World) (k : Nat) (es : List (Int × Int)) (ne r : Nat) (s11 q : Value) (wr : World) : Prop :=
  ∃ i x : Nat, q = .int .i64 i ∧ i ≤ ne ∧ s11 = .int .i64 x ∧ Hid (MidOk k es r i x) ∧ Hid (Below w.heap.size w wr)
theorem bnd_cons (n : Nat) (es : List (Int × Int)) (v : Nat) (l : List Nat) (D d : Nat) : bndGo n es (v :: l) D d = match eccF n es v with
    | none => none
    | some t => bndGo n es l (max D t) (max d (degN n es v)) := rfl
def RNearI (w : World) (k : Nat) (es : List (Int × Int)) (v : Nat) (s9 q : Value) (wr : World) : Prop :=
  ∃ j : Nat, q = .int .i64 j ∧ j ≤ k ∧ s9 = .int .i64 (((List.range j).filter (adjB es v)).length : Nat) ∧ Hid (Below w.heap.size w wr)
def adj1 (v j : Nat) (e : Int × Int) : Bool := (e.1 == (v : Int) && e.2 == (j : Int)) || (e.1 == (j : Int) && e.2 == (v : Int))
def RAdjI (w : World) (es : List (Int × Int)) (ne v j c9 : Nat) (s q : Value) (wr : World) : Prop :=
  ∃ i : Nat, q = .int .i64 i ∧ i ≤ ne ∧ s = .int .i64 c9 ∧ Hid ((es.take i).any (adj1 v j) = false) ∧ Hid (Below w.heap.size w wr)
theorem filt_le (f : Nat → Bool) (j : Nat) : ((List.range j).filter f).length ≤ j := by
  have := List.length_filter_le f (List.range j)
  rw [List.length_range] at this
  exact this
set_option maxRecDepth 100000 in
set_option maxHeartbeats 16000000 in
theorem rbound_calls (k : Nat) (hk : 1 ≤ k ∧ k ≤ 8) (B : Option Addr) (ne ce : Nat) (es : List (Int × Int)) (w : World) (hne : ne = es.length) (h30 : ne ≤ 100) (hg : IsG k es) (hB : RdE w B es) (hle : ne ≤ ce) (hce : ce ≤ 9223372036854775807) :
    Calls Try.prog 35 #[.int .i64 k, .slice B ne ce] w fun e w' => e = .returned (.int .i64 (refB k es)) ∧ Below w.heap.size w w' := by
  have HG := Lib.hid hg
  have HB := Lib.hid hB
  have HNE := Lib.hid hne
  have k256 : (2 : Nat) ^ k ≤ 256 := (Nat.pow_le_pow_right (by omega) hk.2 : 2 ^ k ≤ 2 ^ 8)
  have K256 := Lib.hid k256
  have wpk := pow_wrap k hk.2
  clear hg hB hne k256
  go_enter Try.func35, Try.ntmps35
  go_wp2_with fail
  go_loopw [5, 6, 7] (RBndI w k es) (fun _ _ q _ => k - (intOf q).toNat)
  case atStart => exact ⟨0, 0, 0, rfl, Nat.zero_le _, rfl, rfl, Nat.zero_le _, Nat.zero_le _, fun h => absurd h (by omega), Lib.hid rfl, Lib.hid (Below.refl _ _)⟩
  case round =>
    obtain ⟨v, D, d, rfl, hvk, rfl, rfl, hD, hd, hpos, HGO, HBr⟩ := hrel
    by_cases hlt : v < k
    · obtain ⟨W3, hW3⟩ : ∃ q, q = wr := ⟨_, rfl⟩
      rw [← hW3] at HBr ⊢
      clear hW3
      have wpv := pow_wrap v (by omega)
      have HPOS := Lib.hid hpos
      clear hpos
      go_wp2_with fail
      go_loopw [5, 8, 10] (RRndI W3 k es v D) (fun _ _ q _ => (k : Int).toNat + 1 - (intOf q).toNat)
      case atStart => exact ⟨0, 2 ^ v, D, by simp, Nat.zero_le _, by simp, rfl, by simp [lastF], Lib.hid (mask_start hlt es), Lib.hid (Below.refl _ _)⟩
      case round =>
        obtain ⟨t, r, D', rfl, htk, rfl, rfl, hD', HM, HB4⟩ := hrel
        have HDD := Lib.hid hD'
        have hll := last_le k es v t
        have hD8 : D' ≤ k := by omega
        clear hD' hll
        obtain ⟨W4, hW4⟩ : ∃ q, q = wr := ⟨_, rfl⟩
        rw [← hW4] at HB4 ⊢
        clear hW4
        by_cases hlt2 : t < k
        · have t1 : decide ((t : Int) + 1 ≤ (k : Int)) = true := decide_eq_true (by omega)
          have r256 : r < 256 := by have := HM.out.1; have := K256.out; omega
          go_wp2_with fail
          go_loopw [11, 12] (RMidI W4 k es ne r) (fun _ q _ => ne - (intOf q).toNat)
          case atStart => exact ⟨0, r, rfl, Nat.zero_le _, rfl, Lib.hid (mid_zero HM.out.1), Lib.hid (Below.refl _ _)⟩
          case round =>
            obtain ⟨i, x, rfl, hi, rfl, HX, HB5⟩ := hrel
            have x256 : x < 256 := by have := HX.out.1; have := K256.out; omega
            by_cases hli : i < ne
            · have hil : i < es.length := by have := HNE.out; omega
              obtain ⟨b, off, rfl, hb, hc1, hc2⟩ := HB.out.at i hil
              have hBB := HBr.out.trans ((HB4.out.mono HBr.out.size).trans (HB5.out.mono (Nat.le_trans HBr.out.size HB4.out.size)))
              have d1 := (hBB.cell (p := ⟨b, off + i * 2, none⟩) hb).trans hc1
              have d2 := (hBB.cell (p := ⟨b, off + i * 2 + 1, none⟩) hb).trans hc2
              obtain ⟨q1, q2, q3⟩ := HG.out es[i] (List.getElem_mem hil)
              clear q3
              obtain ⟨a, ha⟩ : ∃ x : Nat, es[i].1 = x := ⟨es[i].1.toNat, by omega⟩
              obtain ⟨c, hc⟩ : ∃ x : Nat, es[i].2 = x := ⟨es[i].2.toNat, by omega⟩
              have hei : es[i] = ((a : Int), (c : Int)) := by rw [← ha, ← hc]
              have HSTEP := Lib.hid (fun h => mid_step HX.out hil hei (by omega) (by omega) h)
              have HSKIP := Lib.hid (fun h => mid_skip HX.out hil hei h)
              have hbt := bit_test r a c r256
              have hbm := bit_more x a c x256 (by omega) (by omega)
              rw [ha] at d1 q1
              rw [hc] at d2 q2
              have z2 : (0 : Int) ≤ (a : Int) ∧ (a : Int) ≤ 64 := by omega
              have z3 : (0 : Int) ≤ (c : Int) ∧ (c : Int) ≤ 64 := by omega
              have wi : IntKind.i64.wrap ((i : Int) + 1) = (i : Int) + 1 := IntWalk.i64_in _ (by omega)
              have wpa := pow_wrap a (by omega)
              have wpc := pow_wrap c (by omega)
              obtain ⟨X, hX⟩ : ∃ X, X = x ||| (2 ^ a ||| 2 ^ c) := ⟨_, rfl⟩
              rw [← hX] at hbm HSTEP
              clear hc1 hc2 hBB ha hc hei hil hX q1 q2
              cases hbv : (r.testBit a || r.testBit c)
              · rw [hbv, if_neg (by simp)] at hbt
                have HN := Lib.hid (HSKIP.out hbv)
                clear hbv hbm
                go_wp2_with fail
                go_quiet (fail)
                go_wp2_with fail
                go_quiet (fail)
                go_wp2_with fail
                exact ⟨⟨i + 1, x, by go_num, by omega, rfl, HN, Lib.hid (below_drewN HB5.out _)⟩, by simp [intOf]; omega⟩
              · rw [hbv, if_pos (by simp)] at hbt
                have HN := Lib.hid (HSTEP.out hbv)
                clear hbv
                go_wp2_with fail
                go_quiet (fail)
                go_wp2_with fail
                go_quiet (fail)
                go_wp2_with fail
                go_quiet (fail)
                go_wp2_with fail
                exact ⟨⟨i + 1, X, by go_num, by omega, rfl, HN, Lib.hid (below_drewN HB5.out _)⟩, by simp [intOf]; omega⟩
            · have e : i = es.length := by have := HNE.out; omega
              have hM2 := HX.out
              rw [e] at hM2
              have HM2 := Lib.hid (mid_end HM.out HG.out hM2)
              have HB6 := Lib.hid (HB4.out.trans (HB5.out.mono HB4.out.size))
              have HINJ := Lib.hid (mask_inj HM2.out HM.out (ball_len _ _ _ _) (ball_len _ _ _ _))
              have hll := last_le k es v t
              have HLL := Lib.hid hll
              clear e hM2 hll
              by_cases hxr : x = r
              · have HLF : Hid (lastF k es v (t + 1) = lastF k es v t) := by
                  show _ = _
                  unfold lastF
                  rw [if_pos (HINJ.out.1 hxr)]
                  cases t <;> rfl
                subst hxr
                go_wp2_with fail
                go_roundw
                case rel => exact ⟨t + 1, x, D', by go_num, by omega, rfl, rfl, by rw [HLF.out]; exact HDD.out, HM2, HB6⟩
                case measure => simp [intOf]; omega
              · have HLF : Hid (lastF k es v (t + 1) = t + 1) := by
                  show _ = _
                  unfold lastF
                  rw [if_neg (fun h => hxr (HINJ.out.2 h))]
                have hxd : decide ((x : Int) = (r : Int)) = false := decide_eq_false (by omega)
                by_cases hDt : D' < t + 1
                · have t2 : (D' : Int) < (t : Int) + 1 := by omega
                  go_wp2_with fail
                  all_goals
                    go_roundw
                    case rel => exact ⟨t + 1, x, t + 1, by go_num, by omega, rfl, by go_num, by rw [HLF.out]; have := HDD.out; have := HLL.out; omega, HM2, HB6⟩
                    case measure => simp [intOf]; omega
                · have t2 : ¬ ((D' : Int) < (t : Int) + 1) := by omega
                  go_wp2_with fail
                  all_goals
                    go_roundw
                    case rel => exact ⟨t + 1, x, D', by go_num, by omega, rfl, by go_num, by rw [HLF.out]; have := HDD.out; have := HLL.out; omega, HM2, HB6⟩
                    case measure => simp [intOf]; omega
        · have e : t = k := by omega
          subst e
          have t1 : decide ((t : Int) + 1 ≤ (t : Int)) = false := decide_eq_false (by omega)
          have HFU := Lib.hid (mask_full HM.out (ball_len _ _ _ _))
          have HB6 := Lib.hid (HBr.out.trans (HB4.out.mono HBr.out.size))
          have hpow : ((2 ^ t - 1 : Nat) : Int) = (2 : Int) ^ t - 1 := by
            have h1 : 1 ≤ (2 : Nat) ^ t := Nat.one_le_two_pow
            have h2 : ((2 ^ t : Nat) : Int) = (2 : Int) ^ t := by simp
            omega
          have wpm : IntKind.i64.wrap ((2 : Int) ^ t - 1) = (2 : Int) ^ t - 1 := by
            rw [← hpow]
            exact IntWalk.i64_in _ (by have := K256.out; omega)
          obtain ⟨P, hP⟩ : ∃ P : Nat, P = 2 ^ t - 1 := ⟨_, rfl⟩
          have wpP : IntKind.i64.wrap ((2 : Int) ^ t - 1) = (P : Int) := by rw [wpm, hP, hpow]
          rw [← hP] at HFU
          clear wpm hpow hP
          cases hfu : fullB (ballF t es v t)
          · have HRB : Hid (refB t es = -1) := by
              show _ = _
              unfold refB
              split
              · rfl
              · have hg := HGO.out
                rw [List.drop_eq_getElem_cons (by simpa using hlt)] at hg
                unfold bndF
                rw [hg]
                unfold bndGo
                rw [List.getElem_range, ecc_no hfu]
            have hrn : r ≠ P := fun h => by rw [HFU.out.1 h] at hfu; cases hfu
            have hdec : decide (r = P) = false := decide_eq_false hrn
            clear hfu
            go_wp2_with fail
            go_ret
            exact ⟨ret_int HRB.out.symm, HB6.out⟩
          · have hrP : r = P := HFU.out.2 hfu
            subst hrP
            by_cases hk2 : t < 2
            · have HRB : Hid (refB t es = -1) := by
                show _ = _
                unfold refB
                rw [if_pos hk2]
              have t2 : decide ((t : Int) < 2) = true := decide_eq_true (by omega)
              clear hfu
              go_wp2_with fail
              go_ret
              exact ⟨ret_int HRB.out.symm, HB6.out⟩
            · have t2 : decide ((t : Int) < 2) = false := decide_eq_false (by omega)
              have hecc := ecc_last hlt hfu
              have hep := ecc_pos (by omega) hecc
              have hgo := HGO.out
              rw [List.drop_eq_getElem_cons (by simpa using hlt)] at hgo
              rw [bnd_cons, List.getElem_range, hecc] at hgo
              simp only at hgo
              have hds := deg_small t es v
              have HGO2 : Hid (bndGo t es (List.range t) 0 0 = bndGo t es ((List.range t).drop (v + 1)) D' (max d (degN t es v))) := by
                show _ = _
                rw [hgo, HDD.out]
              have hD1 : 0 < D' := by have := HDD.out; omega
              clear hfu hecc hep hgo
              have HGO2' := HGO2
              have hd' : max d (degN t es v) ≤ t := by omega
              obtain ⟨W5, hW5⟩ : ∃ q, q = W4 := ⟨_, rfl⟩
              rw [← hW5] at HB6 ⊢
              clear hW5 HB4
              go_wp2_with fail
              go_loopw [9, 15] (RNearI W5 t es v) (fun _ q _ => t - (intOf q).toNat)
              case atStart => exact ⟨0, rfl, Nat.zero_le _, by simp, Lib.hid (Below.refl _ _)⟩
              case round =>
                obtain ⟨j, rfl, hj, rfl, HB7⟩ := hrel
                obtain ⟨W7, hW7⟩ : ∃ q, q = wr := ⟨_, rfl⟩
                rw [← hW7] at HB7 ⊢
                clear hW7
                have hfl := filt_le (adjB es v) j
                have hdt := deg_take (adjB es v) j
                obtain ⟨c9, hc9⟩ : ∃ c, c = ((List.range j).filter (adjB es v)).length := ⟨_, rfl⟩
                rw [← hc9] at hfl hdt ⊢
                have HDT := Lib.hid hdt
                by_cases hlj : j < t
                · clear hdt hc9
                  have wj : IntKind.i64.wrap ((j : Int) + 1) = (j : Int) + 1 := IntWalk.i64_in _ (by omega)
                  have wc : IntKind.i64.wrap ((c9 : Int) + 1) = (c9 : Int) + 1 := IntWalk.i64_in _ (by omega)
                  go_wp2_with fail
                  go_loopw [9, 16] (RAdjI W7 es ne v j c9) (fun _ q _ => ne - (intOf q).toNat)
                  case atStart => exact ⟨0, rfl, Nat.zero_le _, rfl, Lib.hid rfl, Lib.hid (Below.refl _ _)⟩
                  case round =>
                    obtain ⟨i, rfl, hi, rfl, HNO, HB8⟩ := hrel
                    by_cases hli : i < ne
                    · have hil : i < es.length := by have := HNE.out; omega
                      obtain ⟨b, off, rfl, hb, hc1, hc2⟩ := HB.out.at i hil
                      have hBB := HB6.out.trans ((HB7.out.mono HB6.out.size).trans (HB8.out.mono (Nat.le_trans HB6.out.size HB7.out.size)))
                      have d1 := (hBB.cell (p := ⟨b, off + i * 2, none⟩) hb).trans hc1
                      have d2 := (hBB.cell (p := ⟨b, off + i * 2 + 1, none⟩) hb).trans hc2
                      obtain ⟨q1, q2, q3⟩ := HG.out es[i] (List.getElem_mem hil)
                      obtain ⟨a, ha⟩ : ∃ x : Nat, es[i].1 = x := ⟨es[i].1.toNat, by omega⟩
                      obtain ⟨c, hc⟩ : ∃ x : Nat, es[i].2 = x := ⟨es[i].2.toNat, by omega⟩
                      have hac : a ≠ c := by omega
                      clear q3
                      have hei : adj1 v j es[i] = ((decide ((a : Int) = (v : Int)) && decide ((c : Int) = (j : Int))) || (decide ((a : Int) = (j : Int)) && decide ((c : Int) = (v : Int)))) := by
                        unfold adj1
                        rw [ha, hc, Bool.eq_iff_iff]
                        simp
                      have HYES : adj1 v j (es[i]'hil) = true → Hid (adjB es v j = true) := fun h => List.any_eq_true.2 ⟨es[i], List.getElem_mem _, h⟩
                      have HNOT : adj1 v j (es[i]'hil) = false → Hid ((es.take (i + 1)).any (adj1 v j) = false) := fun h => any_take_succE hil HNO.out h
                      rw [hei] at HYES HNOT
                      rw [ha] at d1 q1
                      rw [hc] at d2 q2
                      have HYES := Lib.hid HYES
                      have HNOT := Lib.hid HNOT
                      have hBX : Below W7.heap.size W7 (wr.alloc (.cells #[.int .i64 a, .int .i64 c] 55)) := HB8.out.alloc HB8.out.size _
                      have HB9 := Lib.hid hBX
                      have HB10 := Lib.hid (HB7.out.trans (hBX.mono HB7.out.size))
                      have wi : IntKind.i64.wrap ((i : Int) + 1) = (i : Int) + 1 := IntWalk.i64_in _ (by omega)
                      clear hc1 hc2 hBB ha hc hei hil q1 q2 hBX
                      by_cases hvj : v = j
                      · subst hvj
                        by_cases q1 : a = v
                        · obtain rfl : v = a := q1.symm
                          have k1 : decide ((v : Int) = (v : Int)) = true := decide_eq_true rfl
                          have k2 : decide ((c : Int) = (v : Int)) = false := decide_eq_false (by omega)
                          have HN := HNOT.out (by rw [k1, k2]; rfl)
                          clear HYES HNOT
                          go_wp2_with fail
                          go_roundw
                          case rel => exact ⟨i + 1, by go_num, by omega, rfl, HN, HB9⟩
                          case measure => simp [intOf]; omega
                        · by_cases q2 : c = v
                          · obtain rfl : v = c := q2.symm
                            have k1 : decide ((a : Int) = (v : Int)) = false := decide_eq_false (by omega)
                            have k2 : decide ((v : Int) = (v : Int)) = true := decide_eq_true rfl
                            have HN := HNOT.out (by rw [k1, k2]; rfl)
                            clear HYES HNOT
                            go_wp2_with fail
                            go_roundw
                            case rel => exact ⟨i + 1, by go_num, by omega, rfl, HN, HB9⟩
                            case measure => simp [intOf]; omega
                          · have k1 : decide ((a : Int) = (v : Int)) = false := decide_eq_false (by omega)
                            have k2 : decide ((c : Int) = (v : Int)) = false := decide_eq_false (by omega)
                            have HN := HNOT.out (by rw [k1, k2]; rfl)
                            clear HYES HNOT
                            go_wp2_with fail
                            go_roundw
                            case rel => exact ⟨i + 1, by go_num, by omega, rfl, HN, HB9⟩
                            case measure => simp [intOf]; omega
                      · by_cases q1 : a = v
                        · obtain rfl : v = a := q1.symm
                          by_cases q2 : c = j
                          · obtain rfl : j = c := q2.symm
                            have k1 : decide ((v : Int) = (v : Int)) = true := decide_eq_true rfl
                            have k2 : decide ((j : Int) = (j : Int)) = true := decide_eq_true rfl
                            have k3 : decide ((v : Int) = (j : Int)) = false := decide_eq_false (by omega)
                            have k4 : decide ((j : Int) = (v : Int)) = false := decide_eq_false (by omega)
                            have HY := HYES.out (by rw [k1, k2, k3, k4]; rfl)
                            clear HYES HNOT
                            go_wp2_with fail
                            go_roundw
                            case rel => exact ⟨j + 1, by go_num, by omega, by rw [HDT.out, HY.out]; go_num, HB10⟩
                            case measure => simp [intOf]; omega
                          · have k1 : decide ((v : Int) = (v : Int)) = true := decide_eq_true rfl
                            have k2 : decide ((c : Int) = (j : Int)) = false := decide_eq_false (by omega)
                            have k3 : decide ((v : Int) = (j : Int)) = false := decide_eq_false (by omega)
                            have k4 : decide ((c : Int) = (v : Int)) = false := decide_eq_false (by omega)
                            have HN := HNOT.out (by rw [k1, k2, k3, k4]; rfl)
                            clear HYES HNOT
                            go_wp2_with fail
                            go_roundw
                            case rel => exact ⟨i + 1, by go_num, by omega, rfl, HN, HB9⟩
                            case measure => simp [intOf]; omega
                        · by_cases q3 : a = j
                          · obtain rfl : j = a := q3.symm
                            by_cases q4 : c = v
                            · obtain rfl : v = c := q4.symm
                              have k1 : decide ((j : Int) = (v : Int)) = false := decide_eq_false (by omega)
                              have k2 : decide ((v : Int) = (j : Int)) = false := decide_eq_false (by omega)
                              have k3 : decide ((j : Int) = (j : Int)) = true := decide_eq_true rfl
                              have k4 : decide ((v : Int) = (v : Int)) = true := decide_eq_true rfl
                              have HY := HYES.out (by rw [k1, k2, k3, k4]; rfl)
                              clear HYES HNOT
                              go_wp2_with fail
                              go_roundw
                              case rel => exact ⟨j + 1, by go_num, by omega, by rw [HDT.out, HY.out]; go_num, HB10⟩
                              case measure => simp [intOf]; omega
                            · have k1 : decide ((j : Int) = (v : Int)) = false := decide_eq_false (by omega)
                              have k2 : decide ((c : Int) = (j : Int)) = false := decide_eq_false (by omega)
                              have k3 : decide ((j : Int) = (j : Int)) = true := decide_eq_true rfl
                              have k4 : decide ((c : Int) = (v : Int)) = false := decide_eq_false (by omega)
                              have HN := HNOT.out (by rw [k1, k2, k3, k4]; rfl)
                              clear HYES HNOT
                              go_wp2_with fail
                              go_roundw
                              case rel => exact ⟨i + 1, by go_num, by omega, rfl, HN, HB9⟩
                              case measure => simp [intOf]; omega
                          · by_cases q2 : c = j
                            · obtain rfl : j = c := q2.symm
                              have k1 : decide ((a : Int) = (v : Int)) = false := decide_eq_false (by omega)
                              have k2 : decide ((j : Int) = (j : Int)) = true := decide_eq_true rfl
                              have k3 : decide ((a : Int) = (j : Int)) = false := decide_eq_false (by omega)
                              have k4 : decide ((j : Int) = (v : Int)) = false := decide_eq_false (by omega)
                              have HN := HNOT.out (by rw [k1, k2, k3, k4]; rfl)
                              clear HYES HNOT
                              go_wp2_with fail
                              go_roundw
                              case rel => exact ⟨i + 1, by go_num, by omega, rfl, HN, HB9⟩
                              case measure => simp [intOf]; omega
                            · by_cases q4 : c = v
                              · obtain rfl : v = c := q4.symm
                                have k1 : decide ((a : Int) = (v : Int)) = false := decide_eq_false (by omega)
                                have k2 : decide ((v : Int) = (j : Int)) = false := decide_eq_false (by omega)
                                have k3 : decide ((a : Int) = (j : Int)) = false := decide_eq_false (by omega)
                                have k4 : decide ((v : Int) = (v : Int)) = true := decide_eq_true rfl
                                have HN := HNOT.out (by rw [k1, k2, k3, k4]; rfl)
                                clear HYES HNOT
                                go_wp2_with fail
                                go_roundw
                                case rel => exact ⟨i + 1, by go_num, by omega, rfl, HN, HB9⟩
                                case measure => simp [intOf]; omega
                              · have k1 : decide ((a : Int) = (v : Int)) = false := decide_eq_false (by omega)
                                have k2 : decide ((c : Int) = (j : Int)) = false := decide_eq_false (by omega)
                                have k3 : decide ((a : Int) = (j : Int)) = false := decide_eq_false (by omega)
                                have k4 : decide ((c : Int) = (v : Int)) = false := decide_eq_false (by omega)
                                have HN := HNOT.out (by rw [k1, k2, k3, k4]; rfl)
                                clear HYES HNOT
                                go_wp2_with fail
                                go_roundw
                                case rel => exact ⟨i + 1, by go_num, by omega, rfl, HN, HB9⟩
                                case measure => simp [intOf]; omega
                    · have hno : adjB es v j = false := by
                        have h := HNO.out
                        rw [show i = es.length by have := HNE.out; omega, List.take_length] at h
                        exact h
                      have HNF := Lib.hid hno
                      have HB10 := Lib.hid (HB7.out.trans (HB8.out.mono HB7.out.size))
                      clear hno
                      go_wp2_with fail
                      go_roundw
                      case rel => exact ⟨j + 1, by go_num, by omega, by rw [HDT.out, HNF.out]; rfl, HB10⟩
                      case measure => simp [intOf]; omega
                · have e : j = t := by omega
                  subst e
                  have hdg : degN j es v = c9 := hc9.symm
                  rw [hdg] at HGO2 hd'
                  have HB10 := Lib.hid (HB6.out.trans (HB7.out.mono HB6.out.size))
                  have wv : IntKind.i64.wrap ((v : Int) + 1) = (v : Int) + 1 := IntWalk.i64_in _ (by omega)
                  clear hdt hc9 hdg hds HGO2'
                  by_cases hdc : d < c9
                  · have t3 : (d : Int) < (c9 : Int) := by omega
                    have hmx : max d c9 = c9 := by omega
                    rw [hmx] at HGO2 hd'
                    clear hmx
                    go_wp2_with fail
                    all_goals
                      go_roundw
                      case rel => exact ⟨v + 1, D', c9, by go_num, by omega, rfl, rfl, by omega, by omega, fun _ => ⟨hD1, by omega⟩, HGO2, HB10⟩
                      case measure => simp [intOf]; omega
                  · have t3 : ¬ ((d : Int) < (c9 : Int)) := by omega
                    have hmx : max d c9 = d := by omega
                    rw [hmx] at HGO2 hd'
                    clear hmx
                    go_wp2_with fail
                    all_goals
                      go_roundw
                      case rel => exact ⟨v + 1, D', d, by go_num, by omega, rfl, rfl, by omega, by omega, fun _ => ⟨hD1, by omega⟩, HGO2, HB10⟩
                      case measure => simp [intOf]; omega
    · have e : v = k := by omega
      subst e
      obtain ⟨hD1, hk2⟩ := hpos (by omega)
      have hgo := HGO.out
      rw [List.drop_eq_nil_of_le (by simp)] at hgo
      have hrb : refB v es = max (((v : Int) - 1 + D - 1) / D) (((d : Int) + 1) / 2) := by
        unfold refB
        rw [if_neg (by omega)]
        unfold bndF
        rw [hgo]
        rfl
      have hv2 : (v : Int) - 1 + D - 1 = (v : Int) - 2 + D := by omega
      rw [hv2] at hrb
      have e1 : Int.tdiv ((v : Int) - 2 + D) D = ((v : Int) - 2 + D) / D := Int.tdiv_eq_ediv_of_nonneg (by omega)
      have e2 : Int.tdiv ((d : Int) + 1) 2 = ((d : Int) + 1) / 2 := Int.tdiv_eq_ediv_of_nonneg (by omega)
      have b1 : ((v : Int) - 2 + D) / D ≤ (v : Int) - 2 + D := Int.ediv_le_self _ (by omega)
      have b0 : 0 ≤ ((v : Int) - 2 + D) / D := Int.ediv_nonneg (by omega) (by omega)
      obtain ⟨Q1, hQ1⟩ : ∃ q, q = ((v : Int) - 2 + D) / D := ⟨_, rfl⟩
      obtain ⟨Q2, hQ2⟩ : ∃ q, q = ((d : Int) + 1) / 2 := ⟨_, rfl⟩
      rw [← hQ1] at e1 b1 b0 hrb
      rw [← hQ2] at e2 hrb
      have b2 : Q2 ≤ 100 ∧ 0 ≤ Q2 := by omega
      have HRB := Lib.hid hrb
      have z1 : ¬ ((D : Int) = 0) := by omega
      have z2 : ((D : Int) == 0) = false := by rw [beq_eq_false_iff_ne]; omega
      have z3 : ¬ (D = 0) := by omega
      have z4 : ¬ ((D : Int) = -1) := by omega
      have w1 : IntKind.i64.wrap ((v : Int) - 2) = (v : Int) - 2 := IntWalk.i64_in _ (by omega)
      have w2 : IntKind.i64.wrap ((v : Int) - 2 + D) = (v : Int) - 2 + D := IntWalk.i64_in _ (by omega)
      have w3 : IntKind.i64.wrap ((d : Int) + 1) = (d : Int) + 1 := IntWalk.i64_in _ (by omega)
      have w4 : IntKind.i64.wrap Q1 = Q1 := IntWalk.i64_in _ (by omega)
      have w5 : IntKind.i64.wrap Q2 = Q2 := IntWalk.i64_in _ (by omega)
      clear hgo hv2 hrb hQ1 hQ2 hpos
      by_cases hq : Q1 < Q2
      all_goals
        go_wp2_with fail
        all_goals
          go_ret
          exact ⟨ret_int (by rw [HRB.out]; omega), HBr.out⟩
end Go.Proofs.Ytlidnhmagleehaa
