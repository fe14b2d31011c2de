/- What is proved: settled. No condition beyond those in each statement. -/
import Derived.Test.YtahjgdikjaakbaaPf
import Derived.Test.YtahjgdikjaakbaaZE
namespace Go.Proofs.Ytahjgdikjaakbaa
open Go.RowKit

theorem bits_or_small (a b : Nat) (ha : a < 4294967296) (hb : b < 4294967296) : bits .or .i64 (a : Int) (b : Int) = ((a ||| b : Nat) : Int) := by
  have hx : a ||| b < 2 ^ 32 := Nat.or_lt_two_pow (by omega) (by omega)
  have h1 : (BitVec.ofInt 64 (a : Int)).toNat = a := by
    rw [BitVec.ofInt_natCast, BitVec.toNat_ofNat]; exact Nat.mod_eq_of_lt (by omega)
  have h2 : (BitVec.ofInt 64 (b : Int)).toNat = b := by
    rw [BitVec.ofInt_natCast, BitVec.toNat_ofNat]; exact Nat.mod_eq_of_lt (by omega)
  show IntKind.i64.wrap ((BitVec.ofInt 64 (a : Int) ||| BitVec.ofInt 64 (b : Int)).toNat : Int) = _
  rw [BitVec.toNat_or, h1, h2]
  exact IntWalk.i64_in _ (by omega)
theorem bits_and_small (a b : Nat) (ha : a < 4294967296) (hb : b < 4294967296) : bits .and .i64 (a : Int) (b : Int) = ((a &&& b : Nat) : Int) := by
  have hx : a &&& b < 2 ^ 32 := Nat.and_lt_two_pow _ (by omega)
  have h1 : (BitVec.ofInt 64 (a : Int)).toNat = a := by
    rw [BitVec.ofInt_natCast, BitVec.toNat_ofNat]; exact Nat.mod_eq_of_lt (by omega)
  have h2 : (BitVec.ofInt 64 (b : Int)).toNat = b := by
    rw [BitVec.ofInt_natCast, BitVec.toNat_ofNat]; exact Nat.mod_eq_of_lt (by omega)
  show IntKind.i64.wrap ((BitVec.ofInt 64 (a : Int) &&& BitVec.ofInt 64 (b : Int)).toNat : Int) = _
  rw [BitVec.toNat_and, h1, h2]
  exact IntWalk.i64_in _ (by omega)
theorem bit_test1 (r a : Nat) (hr : r < 256) : bits .and .i64 ((r : Int) / 2 ^ a) 1 = if r.testBit a = true then 1 else 0 := by
  have e1 : (r : Int) / 2 ^ a = ((r / 2 ^ a : Nat) : Int) := by simp
  have l1 : r / 2 ^ a ≤ r := Nat.div_le_self _ _
  rw [e1, show (1 : Int) = ((1 : Nat) : Int) from rfl, bits_and_small _ _ (by omega) (by omega)]
  have h0 : (r / 2 ^ a).testBit 0 = r.testBit a := by
    rw [Nat.testBit_div_two_pow, Nat.zero_add]
  rw [Nat.and_one_is_mod]
  rw [Nat.testBit_zero] at h0
  rw [← h0]
  by_cases h : (r / 2 ^ a) % 2 = 1
  · rw [h]; simp
  · have h2 : (r / 2 ^ a) % 2 = 0 := by omega
    rw [h2]; simp
theorem bit_more1 (x a : Nat) (hx : x < 64) (ha : a < 6) : bits .or .i64 (x : Int) (2 ^ a) = ((x ||| 2 ^ a : Nat) : Int) ∧ x ||| 2 ^ a < 64 ∧ (x ||| 2 ^ a).testBit a = true := by
  have p1 : (2 : Nat) ^ a < 2 ^ 6 := Nat.pow_lt_pow_right (by omega) ha
  have e1 : (2 : Int) ^ a = ((2 ^ a : Nat) : Int) := by simp
  refine ⟨by rw [e1, bits_or_small _ _ (by omega) (by omega)], Nat.or_lt_two_pow (n := 6) (by omega) p1, ?_⟩
  rw [Nat.testBit_or, Nat.testBit_two_pow]
  simp
theorem pow_wrap (a : Nat) (ha : a ≤ 8) : IntKind.i64.wrap (2 ^ a) = (2 : Int) ^ a := by
  have h : ∀ a : Nat, a ≤ 8 → IntKind.i64.wrap (2 ^ a) = (2 : Int) ^ a := by decide +kernel
  exact h a ha
def SeI (w : Fr) (T n k0 : Nat) (W : Nat → Prop) (v6 v7 : Value) (wr : World) : Prop := ∃ (k b : Nat) (t : TS), v7 = .int .i64 k ∧ v6 = .int .i64 b ∧ LawI w T n (k0 + k) t wr ∧ k + t.mu ≤ 400 ∧ b < 64 ∧ Been W t b
/-- The first message of a tower that has one, at some place. -/
structure Pick (t : TS) (l : List Cal) (q : Int) (m : Nat) (c : Cal) : Prop where
  i : c.1 < t.n
  j : c.2.1 < t.n
  f : t.fl c.1 c.2.1 ≠ []
theorem pick_of {t : TS} {l : List Cal} (hl : l = t.cals) {q : Int} (hq : 0 ≤ q) (hne : l ≠ []) : ∃ (m : Nat) (c : Cal), Int.tmod q l.length = m ∧ m < l.length ∧ Pick t l q m c ∧ (∀ w A cp base, OwC w base (.slice A l.length cp) l → ∃ b o, A = some ⟨b, o, none⟩ ∧ w.cell? ⟨b, o + m * 4, none⟩ = some (.int .i64 c.1) ∧ w.cell? ⟨b, o + m * 4 + 1, none⟩ = some (.int .i64 c.2.1) ∧ w.cell? ⟨b, o + m * 4 + 2, none⟩ = some (.bool c.2.2.isTok) ∧ w.cell? ⟨b, o + m * 4 + 3, none⟩ = some (.int .i64 c.2.2.num)) := by
  have hp : 0 < l.length := List.length_pos_iff.2 hne
  have e1 := Int.emod_nonneg q (by omega : (l.length : Int) ≠ 0)
  have e2 := Int.emod_lt_of_pos q (by omega : 0 < (l.length : Int))
  obtain ⟨m, hm⟩ : ∃ m : Nat, (m : Int) = q % l.length := ⟨(q % l.length).toNat, by omega⟩
  have hml : m < l.length := by omega
  refine ⟨m, l[m], by rw [hm]; exact Int.tmod_eq_emod_of_nonneg hq, hml, ?_, ?_⟩
  · have hmem : l[m] ∈ t.cals := by rw [← hl]; exact List.getElem_mem hml
    obtain ⟨h1, h2, h3⟩ := mem_cals hmem
    exact ⟨h1, h2, fun e => by rw [e] at h3; cases h3⟩
  · intro w A cp base ho
    obtain ⟨A', c', e, _, _, _, hrd, _⟩ := ho.rd
    cases e
    obtain ⟨b, o, e, _, d1, d2, d3, d4⟩ := hrd.at m hml
    exact ⟨b, o, e, d1, d2, d3, d4⟩
theorem delI_pick {t : TS} {l : List Cal} {q : Int} {m : Nat} {c : Cal} (I : Inv t) (h : Pick t l q m c) : t.delI c.1 c.2.1 = t.deliver c.1 c.2.1 := by
  have hne : c.1 ≠ c.2.1 := by
    intro e
    have h1 := h.f
    rw [← e, I.fi c.1 h.i] at h1
    exact h1 rfl
  unfold TS.delI
  rw [if_pos ⟨thereB_nat h.i, thereB_nat h.j, by omega⟩, Int.toNat_natCast, Int.toNat_natCast]
theorem leaveI_at {t : TS} {a : Nat} (ha : a < t.n) (hm : t.m a = 2) : t.leaveI a = t.leave a := by
  unfold TS.leaveI
  rw [if_pos (thereB_nat ha), Int.toNat_natCast, if_pos hm]
/-- What settled leaves. -/
def SetR (w : Fr) (T n : Nat) (W : Nat → Prop) (e : Ending) (w' : World) : Prop := ∃ (b k : Nat) (t : TS), e = .returned (.tuple #[.int .i64 b, .bool true]) ∧ k ≤ 500 ∧ LawI w T n k t w' ∧ t.insI = -1 ∧ t.cals = [] ∧ b < 64 ∧ ∀ a, a < n → W a → b.testBit a = true
set_option maxRecDepth 100000 in
set_option maxHeartbeats 16000000 in
theorem settled_calls {w0 : Fr} {w : World} {T n k0 : Nat} {t : TS} {A : Option Addr} {L c : Nat} {xs : List Int} (hlaw : LawI w0 T n k0 t w) (hk0 : k0 ≤ 60) (hL : L = xs.length) (hA : RdU w0.w A xs) (hY : ∀ b o, xs ≠ [] → A = some ⟨b, o, none⟩ → w0.Y b) (_hl : L ≤ c) (hc : c ≤ 9223372036854775807) (hxs : ∀ b ∈ xs, 0 ≤ b ∧ b ≤ 255) :
    Calls Try.prog 23 #[.pointer (some ⟨T, 0, none⟩), .slice A L c] w (SetR w0 T n fun a => t.m a = 1) := by
  have hmu := mu_le hlaw.ok
  have HA := Lib.hid hA
  have HY := Lib.hid hY
  have HL := Lib.hid hL
  have HXS := Lib.hid hxs
  have HLAW := Lib.hid hlaw
  have HMU : Hid (t.mu ≤ 400) := by show t.mu ≤ 400; omega
  have hLc : (L : Int) ≤ 9223372036854775807 := by omega
  obtain ⟨W, hW⟩ : ∃ W : Nat → Prop, W = fun a => t.m a = 1 := ⟨_, rfl⟩
  have HBN : Hid (Been W t 0) := by
    intro a _ hw
    rw [hW] at hw
    have hw : t.m a = 1 := hw
    left; rw [hw]; omega
  rw [← hW]
  clear hlaw hL hA hxs hmu hW hY
  go_enter Try.func23, Try.ntmps23
  go_wp2_with fail
  go_loopw [6, 7] (fun v6 v7 wr => SeI w0 T n k0 W v6 v7 wr) (fun _ v7 _ => 3000 - (intOf v7).toNat)
  case atStart => exact ⟨0, 0, t, rfl, rfl, HLAW.out, by have := HMU.out; omega, by omega, HBN.out⟩
  case round =>
    obtain ⟨k, been, t', rfl, rfl, hlaw, hmu, hbl, hbn⟩ := hrel
    have HLW := Lib.hid hlaw
    have HMU2 := Lib.hid hmu
    have HBN2 := Lib.hid hbn
    have HBL := Lib.hid hbl
    have hk4 : k ≤ 400 := by omega
    have CI := Lib.hid (on_inside hlaw.on)
    have CF : Hid (∀ w1, LawI w0 T n (k0 + k) t' w1 → Calls Try.prog 16 #[.pointer (some ⟨T, 0, none⟩)] w1 fun e w' => ∃ v, e = .returned v ∧ OwC w' w1.heap.size v t'.cals ∧ LawI w0 T n (k0 + k) t' w' ∧ Below w1.heap.size w1 w') := fun w1 h1 => (on_flight h1.on h1.ok (by omega)).mono fun _ _ ⟨v, he, ho, _, hb⟩ => ⟨v, he, ho, h1.below hb, hb⟩
    have CV : Hid (∀ w1 i, LawI w0 T n (k0 + k) t' w1 → Calls Try.prog 34 #[.pointer (some ⟨T, 0, none⟩), .int .i64 i] w1 fun e w' => (∃ r, e = .returned (.int .i64 r)) ∧ LawI w0 T n (k0 + k + 1) (t'.leaveI i) w') := fun w1 i h1 => (on_leave h1.on h1.ok (by omega) i).mono fun _ _ ⟨he, ho⟩ => ⟨⟨_, he⟩, ho, h1.ok.leave i, by rw [leaveI_n]; exact h1.n⟩
    have CD : Hid (∀ w1 a b, LawI w0 T n (k0 + k) t' w1 → Calls Try.prog 37 #[.pointer (some ⟨T, 0, none⟩), .int .i64 a, .int .i64 b] w1 fun e w' => (∃ r, e = .returned (.int .i64 r)) ∧ LawI w0 T n (k0 + k + 1) (t'.delI a b) w') := fun w1 a b h1 => (on_deliver h1.on h1.ok (by omega) a b).mono fun _ _ ⟨he, ho⟩ => ⟨⟨_, he⟩, ho, h1.ok.deliver a b, by rw [delI_n]; exact h1.n⟩
    have hIc := insI_cases hlaw.ok.1
    obtain ⟨ii, hii⟩ : ∃ ii, ii = t'.insI := ⟨_, rfl⟩
    rw [← hii] at CI hIc
    have HII := Lib.hid hii
    obtain ⟨l, hl⟩ : ∃ l, l = t'.cals := ⟨_, rfl⟩
    have HPK := Lib.hid (fun (q : Int) (hq : 0 ≤ q) => pick_of hl hq)
    have hl6 : l.length ≤ 60000 := by
      rw [hl, cals_len]
      have h5 := hlaw.ok.2.s0
      have h6 := hlaw.ok.2.tt
      omega
    rw [← hl] at CF
    have HLL := Lib.hid hl
    have hnn := hlaw.ok.1.hn
    have en := hlaw.n
    have HBEL := Lib.hid hlaw.on.kp
    clear hlaw hmu hbn hbl hii hl
    by_cases hL0 : L = 0
    · subst hL0
      rcases hIc with ⟨rfl, hno2⟩ | ⟨a, ha, rfl, hm2, _⟩
      · cases l with
        | nil =>
          clear hno2
          go_wp2_with fail
          refine CI.out.mono ?_
          rintro e w1 ⟨rfl, hon1, hb1⟩
          have HL1 := Lib.hid (HLW.out.below hb1)
          clear hon1 hb1 CI
          go_wp2_with fail
          refine (CF.out _ HL1.out).mono ?_
          rintro e w2 ⟨v2, rfl, ho2, hl2, _⟩
          have HL2 := Lib.hid hl2
          obtain ⟨A2, c2, rfl, hlc2, hcm2, _⟩ := ho2.rd
          clear ho2 hl2 CF HL1 HPK
          simp only [List.length_nil] at hlc2 ⊢
          go_wp2_with fail
          go_ret2
          refine ⟨been, k0 + k, t', rfl, by omega, HL2.out, HII.out.symm, HLL.out.symm, HBL.out, fun a ha hw => ?_⟩
          have h9 := (quiet_all HLW.out.ok.1 HII.out.symm HLL.out.symm).1 a (by rw [HLW.out.n]; exact ha)
          rcases HBN2.out a (by rw [HLW.out.n]; exact ha) hw with h8 | h8
          · exact absurd h9 h8
          · exact h8
        | cons c0 l =>
          clear hno2
          obtain ⟨m, ⟨ca, cb, cm⟩, t3, hml, hpk, hpa⟩ := HPK.out 0 (by omega) (by simp)
          obtain ⟨M, hM⟩ : ∃ M, M = (c0 :: l).length := ⟨_, rfl⟩
          have HPA := Lib.hid hpa
          have HPKK := Lib.hid hpk
          have hMp : 0 < M := by rw [hM]; simp
          rw [← hM] at t3 hml hl6
          have z5 : (0 : Int) ≤ (m : Int) ∧ (m : Int) < M := by omega
          have hMz : ((M : Int) == 0) = false := by rw [beq_eq_false_iff_ne]; omega
          have hMp' : (0 : Int) < M := by omega
          obtain ⟨tb, htb⟩ : ∃ tb, tb = cm.isTok := ⟨_, rfl⟩
          obtain ⟨no, hno⟩ : ∃ no, no = cm.num := ⟨_, rfl⟩
          simp only at HPA
          rw [← htb, ← hno] at HPA
          clear hpa hpk HPK htb hno
          have hm0 : m = 0 := by rw [Int.zero_tmod] at t3; omega
          subst hm0
          simp only [Nat.zero_mul, Nat.add_zero] at HPA
          go_wp2_with fail
          refine CI.out.mono ?_
          rintro e w1 ⟨rfl, hon1, hb1⟩
          have HL1 := Lib.hid (HLW.out.below hb1)
          clear hon1 hb1 CI
          go_wp2_with fail
          refine (CF.out _ HL1.out).mono ?_
          rintro e w2 ⟨v2, rfl, ho2, hl2, _⟩
          have HL2 := Lib.hid hl2
          obtain ⟨A2, c2, rfl, hlc2, hcm2, _⟩ := ho2.rd
          obtain ⟨b2, o2, rfl, d1, d2, d3, d4⟩ := HPA.out _ _ _ _ ho2
          rw [← hM] at hlc2 ⊢
          clear ho2 hl2 CF HL1 hM
          go_wp2_with fail
          refine (CD.out _ _ _ (HL2.out.below ((Below.refl _ _).alloc (Nat.le_refl _) _))).mono ?_
          rintro e w3 ⟨⟨r3, rfl⟩, hl3⟩
          rw [show t'.delI ca cb = t'.deliver ca cb from delI_pick (c := (ca, cb, cm)) HLW.out.ok.1 HPKK.out] at hl3
          have HL3 := Lib.hid hl3
          clear hl3 CV CD
          go_wp2_with fail
          exact ⟨⟨k + 1, _, _, by go_num, rfl, HL3.out, by have h8 := mu_deliver HLW.out.ok.1 HPKK.out.i HPKK.out.j HPKK.out.f; have h9 := HMU2.out; simp only at h8; omega, HBL.out, been_deliver HLW.out.ok.1 HPKK.out.j HBN2.out⟩, by simp [intOf]; omega⟩
      · have ha6 : a < 6 := by omega
        have hbm := bit_more1 been a HBL.out ha6
        obtain ⟨hb1, hb2, hb3⟩ := hbm
        obtain ⟨B, hB⟩ : ∃ B, B = been ||| 2 ^ a := ⟨_, rfl⟩
        have HBN3 : Hid (Been W t' B) := by rw [hB]; exact been_more HBN2.out _
        rw [← hB] at hb1 hb2 hb3
        have wpa := pow_wrap a (by omega)
        have z2 : (0 : Int) ≤ (a : Int) ∧ (a : Int) ≤ 64 ∧ (a : Int) < 6 := by omega
        have HM2 := Lib.hid hm2
        have HB3 := Lib.hid hb3
        have HB2 := Lib.hid hb2
        clear hB hm2 hb2 hb3
        cases l with
        | nil =>
          go_wp2_with fail
          refine CI.out.mono ?_
          rintro e w1 ⟨rfl, hon1, hb1⟩
          have HL1 := Lib.hid (HLW.out.below hb1)
          clear hon1 hb1 CI
          go_wp2_with fail
          refine (CF.out _ HL1.out).mono ?_
          rintro e w2 ⟨v2, rfl, ho2, hl2, _⟩
          have HL2 := Lib.hid hl2
          obtain ⟨A2, c2, rfl, hlc2, hcm2, _⟩ := ho2.rd
          clear ho2 hl2 CF HL1 HPK
          simp only [List.length_nil] at hlc2 ⊢
          go_wp2_with fail
          refine (CV.out _ _ HL2.out).mono ?_
          rintro e w3 ⟨⟨r3, rfl⟩, hl3⟩
          rw [leaveI_at (by omega) HM2.out] at hl3
          have HL3 := Lib.hid hl3
          clear hl3 CV CD
          go_wp2_with fail
          exact ⟨⟨k + 1, _, _, by go_num, rfl, HL3.out, by have h8 := mu_leave HLW.out.ok.1 (by omega) HM2.out; have h9 := HMU2.out; omega, HB2.out, been_leave HLW.out.ok.1 (by omega) HM2.out HBN3.out HB3.out⟩, by simp [intOf]; omega⟩
        | cons c0 l =>
          obtain ⟨m, ⟨ca, cb, cm⟩, t3, hml, hpk, hpa⟩ := HPK.out 0 (by omega) (by simp)
          obtain ⟨M, hM⟩ : ∃ M, M = (c0 :: l).length := ⟨_, rfl⟩
          have HPA := Lib.hid hpa
          have HPKK := Lib.hid hpk
          have hMp : 0 < M := by rw [hM]; simp
          rw [← hM] at t3 hml hl6
          have z5 : (0 : Int) ≤ (m : Int) ∧ (m : Int) < M := by omega
          have hMz : ((M : Int) == 0) = false := by rw [beq_eq_false_iff_ne]; omega
          have hMp' : (0 : Int) < M := by omega
          obtain ⟨tb, htb⟩ : ∃ tb, tb = cm.isTok := ⟨_, rfl⟩
          obtain ⟨no, hno⟩ : ∃ no, no = cm.num := ⟨_, rfl⟩
          simp only at HPA
          rw [← htb, ← hno] at HPA
          clear hpa hpk HPK htb hno
          have hm0 : m = 0 := by rw [Int.zero_tmod] at t3; omega
          subst hm0
          simp only [Nat.zero_mul, Nat.add_zero] at HPA
          go_wp2_with fail
          refine CI.out.mono ?_
          rintro e w1 ⟨rfl, hon1, hb1⟩
          have HL1 := Lib.hid (HLW.out.below hb1)
          clear hon1 hb1 CI
          go_wp2_with fail
          refine (CF.out _ HL1.out).mono ?_
          rintro e w2 ⟨v2, rfl, ho2, hl2, _⟩
          have HL2 := Lib.hid hl2
          obtain ⟨A2, c2, rfl, hlc2, hcm2, _⟩ := ho2.rd
          obtain ⟨b2, o2, rfl, d1, d2, d3, d4⟩ := HPA.out _ _ _ _ ho2
          rw [← hM] at hlc2 ⊢
          clear ho2 hl2 CF HL1 hM
          go_wp2_with fail
          refine (CV.out _ _ HL2.out).mono ?_
          rintro e w3 ⟨⟨r3, rfl⟩, hl3⟩
          rw [leaveI_at (by omega) HM2.out] at hl3
          have HL3 := Lib.hid hl3
          clear hl3 CV CD
          go_wp2_with fail
          exact ⟨⟨k + 1, _, _, by go_num, rfl, HL3.out, by have h8 := mu_leave HLW.out.ok.1 (by omega) HM2.out; have h9 := HMU2.out; omega, HB2.out, been_leave HLW.out.ok.1 (by omega) HM2.out HBN3.out HB3.out⟩, by simp [intOf]; omega⟩
    · have hLp : 0 < L := by omega
      have hLz : ((L : Int) == 0) = false := by rw [beq_eq_false_iff_ne]; omega
      have e1 := Int.emod_nonneg (k : Int) (by omega : (L : Int) ≠ 0)
      have e2 := Int.emod_lt_of_pos (k : Int) (by omega : 0 < (L : Int))
      obtain ⟨j, hj⟩ : ∃ j : Nat, (j : Int) = (k : Int) % L := ⟨((k : Int) % L).toNat, by omega⟩
      have t1 : Int.tmod (k : Int) L = j := by rw [hj]; exact Int.tmod_eq_emod_of_nonneg (by omega)
      have hjL : j < L := by omega
      have hil : j < xs.length := by have := HL.out; omega
      obtain ⟨b, o, rfl, hb, hcell⟩ := HA.out.at j hil
      have d0 := (World.cell?_of_block (a := ⟨b, o + j, none⟩) (HBEL.out.block b (HY.out b o (fun e => by rw [e] at hil; simp at hil) rfl))).trans hcell
      have hxi := HXS.out xs[j] (List.getElem_mem hil)
      obtain ⟨x, hx⟩ : ∃ x, x = xs[j] := ⟨_, rfl⟩
      rw [← hx] at d0 hxi
      have z1 : (0 : Int) ≤ (j : Int) ∧ (j : Int) < L := by omega
      have hLp' : (0 : Int) < L := by omega
      obtain ⟨q, hq⟩ : ∃ q : Int, q = x / 2 := ⟨_, rfl⟩
      have t2 : Int.tdiv x 2 = q := by rw [hq]; exact Int.tdiv_eq_ediv_of_nonneg hxi.1
      have hq0 : 0 ≤ q := by omega
      have hq6 : q ≤ 127 := by omega
      have hpar : Int.tmod x 2 = 0 ∨ Int.tmod x 2 = 1 := by
        rw [Int.tmod_eq_emod_of_nonneg hxi.1]; omega
      clear e1 e2 hj hcell hx hq hb hil hL0
      rcases hpar with hpar | hpar
      · rcases hIc with ⟨rfl, hno2⟩ | ⟨a, ha, rfl, hm2, _⟩
        · cases l with
          | nil =>
            clear hno2
            go_wp2_with fail
            refine CI.out.mono ?_
            rintro e w1 ⟨rfl, hon1, hb1⟩
            have HL1 := Lib.hid (HLW.out.below hb1)
            clear hon1 hb1 CI
            go_wp2_with fail
            refine (CF.out _ HL1.out).mono ?_
            rintro e w2 ⟨v2, rfl, ho2, hl2, _⟩
            have HL2 := Lib.hid hl2
            obtain ⟨A2, c2, rfl, hlc2, hcm2, _⟩ := ho2.rd
            clear ho2 hl2 CF HL1 HPK
            simp only [List.length_nil] at hlc2 ⊢
            go_wp2_with fail
            go_ret2
            refine ⟨been, k0 + k, t', rfl, by omega, HL2.out, HII.out.symm, HLL.out.symm, HBL.out, fun a ha hw => ?_⟩
            have h9 := (quiet_all HLW.out.ok.1 HII.out.symm HLL.out.symm).1 a (by rw [HLW.out.n]; exact ha)
            rcases HBN2.out a (by rw [HLW.out.n]; exact ha) hw with h8 | h8
            · exact absurd h9 h8
            · exact h8
          | cons c0 l =>
            clear hno2
            obtain ⟨m, ⟨ca, cb, cm⟩, t3, hml, hpk, hpa⟩ := HPK.out q hq0 (by simp)
            obtain ⟨M, hM⟩ : ∃ M, M = (c0 :: l).length := ⟨_, rfl⟩
            have HPA := Lib.hid hpa
            have HPKK := Lib.hid hpk
            have hMp : 0 < M := by rw [hM]; simp
            rw [← hM] at t3 hml hl6
            have z5 : (0 : Int) ≤ (m : Int) ∧ (m : Int) < M := by omega
            have hMz : ((M : Int) == 0) = false := by rw [beq_eq_false_iff_ne]; omega
            have hMp' : (0 : Int) < M := by omega
            obtain ⟨tb, htb⟩ : ∃ tb, tb = cm.isTok := ⟨_, rfl⟩
            obtain ⟨no, hno⟩ : ∃ no, no = cm.num := ⟨_, rfl⟩
            simp only at HPA
            rw [← htb, ← hno] at HPA
            clear hpa hpk HPK htb hno
            go_wp2_with fail
            refine CI.out.mono ?_
            rintro e w1 ⟨rfl, hon1, hb1⟩
            have HL1 := Lib.hid (HLW.out.below hb1)
            clear hon1 hb1 CI
            go_wp2_with fail
            refine (CF.out _ HL1.out).mono ?_
            rintro e w2 ⟨v2, rfl, ho2, hl2, _⟩
            have HL2 := Lib.hid hl2
            obtain ⟨A2, c2, rfl, hlc2, hcm2, _⟩ := ho2.rd
            obtain ⟨b2, o2, rfl, d1, d2, d3, d4⟩ := HPA.out _ _ _ _ ho2
            rw [← hM] at hlc2 ⊢
            clear ho2 hl2 CF HL1 hM
            go_wp2_with fail
            refine (CD.out _ _ _ (HL2.out.below ((Below.refl _ _).alloc (Nat.le_refl _) _))).mono ?_
            rintro e w3 ⟨⟨r3, rfl⟩, hl3⟩
            rw [show t'.delI ca cb = t'.deliver ca cb from delI_pick (c := (ca, cb, cm)) HLW.out.ok.1 HPKK.out] at hl3
            have HL3 := Lib.hid hl3
            clear hl3 CV CD
            go_wp2_with fail
            exact ⟨⟨k + 1, _, _, by go_num, rfl, HL3.out, by have h8 := mu_deliver HLW.out.ok.1 HPKK.out.i HPKK.out.j HPKK.out.f; have h9 := HMU2.out; simp only at h8; omega, HBL.out, been_deliver HLW.out.ok.1 HPKK.out.j HBN2.out⟩, by simp [intOf]; omega⟩
        · have ha6 : a < 6 := by omega
          have hbm := bit_more1 been a HBL.out ha6
          obtain ⟨hb1, hb2, hb3⟩ := hbm
          obtain ⟨B, hB⟩ : ∃ B, B = been ||| 2 ^ a := ⟨_, rfl⟩
          have HBN3 : Hid (Been W t' B) := by rw [hB]; exact been_more HBN2.out _
          rw [← hB] at hb1 hb2 hb3
          have wpa := pow_wrap a (by omega)
          have z2 : (0 : Int) ≤ (a : Int) ∧ (a : Int) ≤ 64 ∧ (a : Int) < 6 := by omega
          have HM2 := Lib.hid hm2
          have HB3 := Lib.hid hb3
          have HB2 := Lib.hid hb2
          clear hB hm2 hb2 hb3
          cases l with
          | nil =>
            go_wp2_with fail
            refine CI.out.mono ?_
            rintro e w1 ⟨rfl, hon1, hb1⟩
            have HL1 := Lib.hid (HLW.out.below hb1)
            clear hon1 hb1 CI
            go_wp2_with fail
            refine (CF.out _ HL1.out).mono ?_
            rintro e w2 ⟨v2, rfl, ho2, hl2, _⟩
            have HL2 := Lib.hid hl2
            obtain ⟨A2, c2, rfl, hlc2, hcm2, _⟩ := ho2.rd
            clear ho2 hl2 CF HL1 HPK
            simp only [List.length_nil] at hlc2 ⊢
            go_wp2_with fail
            refine (CV.out _ _ HL2.out).mono ?_
            rintro e w3 ⟨⟨r3, rfl⟩, hl3⟩
            rw [leaveI_at (by omega) HM2.out] at hl3
            have HL3 := Lib.hid hl3
            clear hl3 CV CD
            go_wp2_with fail
            exact ⟨⟨k + 1, _, _, by go_num, rfl, HL3.out, by have h8 := mu_leave HLW.out.ok.1 (by omega) HM2.out; have h9 := HMU2.out; omega, HB2.out, been_leave HLW.out.ok.1 (by omega) HM2.out HBN3.out HB3.out⟩, by simp [intOf]; omega⟩
          | cons c0 l =>
            obtain ⟨m, ⟨ca, cb, cm⟩, t3, hml, hpk, hpa⟩ := HPK.out q hq0 (by simp)
            obtain ⟨M, hM⟩ : ∃ M, M = (c0 :: l).length := ⟨_, rfl⟩
            have HPA := Lib.hid hpa
            have HPKK := Lib.hid hpk
            have hMp : 0 < M := by rw [hM]; simp
            rw [← hM] at t3 hml hl6
            have z5 : (0 : Int) ≤ (m : Int) ∧ (m : Int) < M := by omega
            have hMz : ((M : Int) == 0) = false := by rw [beq_eq_false_iff_ne]; omega
            have hMp' : (0 : Int) < M := by omega
            obtain ⟨tb, htb⟩ : ∃ tb, tb = cm.isTok := ⟨_, rfl⟩
            obtain ⟨no, hno⟩ : ∃ no, no = cm.num := ⟨_, rfl⟩
            simp only at HPA
            rw [← htb, ← hno] at HPA
            clear hpa hpk HPK htb hno
            go_wp2_with fail
            refine CI.out.mono ?_
            rintro e w1 ⟨rfl, hon1, hb1⟩
            have HL1 := Lib.hid (HLW.out.below hb1)
            clear hon1 hb1 CI
            go_wp2_with fail
            refine (CF.out _ HL1.out).mono ?_
            rintro e w2 ⟨v2, rfl, ho2, hl2, _⟩
            have HL2 := Lib.hid hl2
            obtain ⟨A2, c2, rfl, hlc2, hcm2, _⟩ := ho2.rd
            obtain ⟨b2, o2, rfl, d1, d2, d3, d4⟩ := HPA.out _ _ _ _ ho2
            rw [← hM] at hlc2 ⊢
            clear ho2 hl2 CF HL1 hM
            go_wp2_with fail
            refine (CV.out _ _ HL2.out).mono ?_
            rintro e w3 ⟨⟨r3, rfl⟩, hl3⟩
            rw [leaveI_at (by omega) HM2.out] at hl3
            have HL3 := Lib.hid hl3
            clear hl3 CV CD
            go_wp2_with fail
            exact ⟨⟨k + 1, _, _, by go_num, rfl, HL3.out, by have h8 := mu_leave HLW.out.ok.1 (by omega) HM2.out; have h9 := HMU2.out; omega, HB2.out, been_leave HLW.out.ok.1 (by omega) HM2.out HBN3.out HB3.out⟩, by simp [intOf]; omega⟩
      · rcases hIc with ⟨rfl, hno2⟩ | ⟨a, ha, rfl, hm2, _⟩
        · cases l with
          | nil =>
            clear hno2
            go_wp2_with fail
            refine CI.out.mono ?_
            rintro e w1 ⟨rfl, hon1, hb1⟩
            have HL1 := Lib.hid (HLW.out.below hb1)
            clear hon1 hb1 CI
            go_wp2_with fail
            refine (CF.out _ HL1.out).mono ?_
            rintro e w2 ⟨v2, rfl, ho2, hl2, _⟩
            have HL2 := Lib.hid hl2
            obtain ⟨A2, c2, rfl, hlc2, hcm2, _⟩ := ho2.rd
            clear ho2 hl2 CF HL1 HPK
            simp only [List.length_nil] at hlc2 ⊢
            go_wp2_with fail
            go_ret2
            refine ⟨been, k0 + k, t', rfl, by omega, HL2.out, HII.out.symm, HLL.out.symm, HBL.out, fun a ha hw => ?_⟩
            have h9 := (quiet_all HLW.out.ok.1 HII.out.symm HLL.out.symm).1 a (by rw [HLW.out.n]; exact ha)
            rcases HBN2.out a (by rw [HLW.out.n]; exact ha) hw with h8 | h8
            · exact absurd h9 h8
            · exact h8
          | cons c0 l =>
            clear hno2
            obtain ⟨m, ⟨ca, cb, cm⟩, t3, hml, hpk, hpa⟩ := HPK.out q hq0 (by simp)
            obtain ⟨M, hM⟩ : ∃ M, M = (c0 :: l).length := ⟨_, rfl⟩
            have HPA := Lib.hid hpa
            have HPKK := Lib.hid hpk
            have hMp : 0 < M := by rw [hM]; simp
            rw [← hM] at t3 hml hl6
            have z5 : (0 : Int) ≤ (m : Int) ∧ (m : Int) < M := by omega
            have hMz : ((M : Int) == 0) = false := by rw [beq_eq_false_iff_ne]; omega
            have hMp' : (0 : Int) < M := by omega
            obtain ⟨tb, htb⟩ : ∃ tb, tb = cm.isTok := ⟨_, rfl⟩
            obtain ⟨no, hno⟩ : ∃ no, no = cm.num := ⟨_, rfl⟩
            simp only at HPA
            rw [← htb, ← hno] at HPA
            clear hpa hpk HPK htb hno
            go_wp2_with fail
            refine CI.out.mono ?_
            rintro e w1 ⟨rfl, hon1, hb1⟩
            have HL1 := Lib.hid (HLW.out.below hb1)
            clear hon1 hb1 CI
            go_wp2_with fail
            refine (CF.out _ HL1.out).mono ?_
            rintro e w2 ⟨v2, rfl, ho2, hl2, _⟩
            have HL2 := Lib.hid hl2
            obtain ⟨A2, c2, rfl, hlc2, hcm2, _⟩ := ho2.rd
            obtain ⟨b2, o2, rfl, d1, d2, d3, d4⟩ := HPA.out _ _ _ _ ho2
            rw [← hM] at hlc2 ⊢
            clear ho2 hl2 CF HL1 hM
            go_wp2_with fail
            refine (CD.out _ _ _ (HL2.out.below ((Below.refl _ _).alloc (Nat.le_refl _) _))).mono ?_
            rintro e w3 ⟨⟨r3, rfl⟩, hl3⟩
            rw [show t'.delI ca cb = t'.deliver ca cb from delI_pick (c := (ca, cb, cm)) HLW.out.ok.1 HPKK.out] at hl3
            have HL3 := Lib.hid hl3
            clear hl3 CV CD
            go_wp2_with fail
            exact ⟨⟨k + 1, _, _, by go_num, rfl, HL3.out, by have h8 := mu_deliver HLW.out.ok.1 HPKK.out.i HPKK.out.j HPKK.out.f; have h9 := HMU2.out; simp only at h8; omega, HBL.out, been_deliver HLW.out.ok.1 HPKK.out.j HBN2.out⟩, by simp [intOf]; omega⟩
        · have ha6 : a < 6 := by omega
          have hbm := bit_more1 been a HBL.out ha6
          obtain ⟨hb1, hb2, hb3⟩ := hbm
          obtain ⟨B, hB⟩ : ∃ B, B = been ||| 2 ^ a := ⟨_, rfl⟩
          have HBN3 : Hid (Been W t' B) := by rw [hB]; exact been_more HBN2.out _
          rw [← hB] at hb1 hb2 hb3
          have wpa := pow_wrap a (by omega)
          have z2 : (0 : Int) ≤ (a : Int) ∧ (a : Int) ≤ 64 ∧ (a : Int) < 6 := by omega
          have HM2 := Lib.hid hm2
          have HB3 := Lib.hid hb3
          have HB2 := Lib.hid hb2
          clear hB hm2 hb2 hb3
          cases l with
          | nil =>
            go_wp2_with fail
            refine CI.out.mono ?_
            rintro e w1 ⟨rfl, hon1, hb1⟩
            have HL1 := Lib.hid (HLW.out.below hb1)
            clear hon1 hb1 CI
            go_wp2_with fail
            refine (CF.out _ HL1.out).mono ?_
            rintro e w2 ⟨v2, rfl, ho2, hl2, _⟩
            have HL2 := Lib.hid hl2
            obtain ⟨A2, c2, rfl, hlc2, hcm2, _⟩ := ho2.rd
            clear ho2 hl2 CF HL1 HPK
            simp only [List.length_nil] at hlc2 ⊢
            go_wp2_with fail
            refine (CV.out _ _ HL2.out).mono ?_
            rintro e w3 ⟨⟨r3, rfl⟩, hl3⟩
            rw [leaveI_at (by omega) HM2.out] at hl3
            have HL3 := Lib.hid hl3
            clear hl3 CV CD
            go_wp2_with fail
            exact ⟨⟨k + 1, _, _, by go_num, rfl, HL3.out, by have h8 := mu_leave HLW.out.ok.1 (by omega) HM2.out; have h9 := HMU2.out; omega, HB2.out, been_leave HLW.out.ok.1 (by omega) HM2.out HBN3.out HB3.out⟩, by simp [intOf]; omega⟩
          | cons c0 l =>
            obtain ⟨m, ⟨ca, cb, cm⟩, t3, hml, hpk, hpa⟩ := HPK.out q hq0 (by simp)
            obtain ⟨M, hM⟩ : ∃ M, M = (c0 :: l).length := ⟨_, rfl⟩
            have HPA := Lib.hid hpa
            have HPKK := Lib.hid hpk
            have hMp : 0 < M := by rw [hM]; simp
            rw [← hM] at t3 hml hl6
            have z5 : (0 : Int) ≤ (m : Int) ∧ (m : Int) < M := by omega
            have hMz : ((M : Int) == 0) = false := by rw [beq_eq_false_iff_ne]; omega
            have hMp' : (0 : Int) < M := by omega
            obtain ⟨tb, htb⟩ : ∃ tb, tb = cm.isTok := ⟨_, rfl⟩
            obtain ⟨no, hno⟩ : ∃ no, no = cm.num := ⟨_, rfl⟩
            simp only at HPA
            rw [← htb, ← hno] at HPA
            clear hpa hpk HPK htb hno
            go_wp2_with fail
            refine CI.out.mono ?_
            rintro e w1 ⟨rfl, hon1, hb1⟩
            have HL1 := Lib.hid (HLW.out.below hb1)
            clear hon1 hb1 CI
            go_wp2_with fail
            refine (CF.out _ HL1.out).mono ?_
            rintro e w2 ⟨v2, rfl, ho2, hl2, _⟩
            have HL2 := Lib.hid hl2
            obtain ⟨A2, c2, rfl, hlc2, hcm2, _⟩ := ho2.rd
            obtain ⟨b2, o2, rfl, d1, d2, d3, d4⟩ := HPA.out _ _ _ _ ho2
            rw [← hM] at hlc2 ⊢
            clear ho2 hl2 CF HL1 hM
            go_wp2_with fail
            refine (CD.out _ _ _ (HL2.out.below ((Below.refl _ _).alloc (Nat.le_refl _) _))).mono ?_
            rintro e w3 ⟨⟨r3, rfl⟩, hl3⟩
            rw [show t'.delI ca cb = t'.deliver ca cb from delI_pick (c := (ca, cb, cm)) HLW.out.ok.1 HPKK.out] at hl3
            have HL3 := Lib.hid hl3
            clear hl3 CV CD
            go_wp2_with fail
            exact ⟨⟨k + 1, _, _, by go_num, rfl, HL3.out, by have h8 := mu_deliver HLW.out.ok.1 HPKK.out.i HPKK.out.j HPKK.out.f; have h9 := HMU2.out; simp only at h8; omega, HB2.out, been_deliver HLW.out.ok.1 HPKK.out.j HBN3.out⟩, by simp [intOf]; omega⟩
end Go.Proofs.Ytahjgdikjaakbaa
