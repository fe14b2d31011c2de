/- What is proved: made, act. No condition beyond those in each statement. -/
import Derived.Test.YtahjgdikjaakbaaY
namespace Go.Proofs.Ytahjgdikjaakbaa
open Go.RowKit

theorem stp_pre {w w1 w' : World} {T : Nat} {X : Nat → Prop} {t' : TS} (hb : Below w.heap.size w w1) (k : Stp T X w1 t' w') : Stp T X w t' w' := by
  obtain ⟨X', h1, h2, h3⟩ := k
  have h0 : Off X w w1 := ⟨hb.os, hb.tape, hb.output, hb.size, fun b hk _ => hb.block b hk⟩
  exact ⟨X', h1, h0.trans h2, fun g hg => (h3 g hg).imp id fun h => Nat.le_trans hb.size h⟩
theorem stp_post {w w1 w2 : World} {T : Nat} {X : Nat → Prop} {t' : TS} (k : Stp T X w t' w1) (hb : Below w1.heap.size w1 w2) : Stp T X w t' w2 := by
  obtain ⟨X', h1, h2, h3⟩ := k
  have h0 : Off X w1 w2 := ⟨hb.os, hb.tape, hb.output, hb.size, fun b hk _ => hb.block b hk⟩
  exact ⟨X', h1.below hb, h2.trans h0, h3⟩
def mdN (x : Int) : Nat := (x % 6).toNat + 1
def mdH (x y : Int) : Nat := (y % (mdN x : Nat)).toNat
def mdT (x y : Int) : TS := TS.made (mdN x) (mdH x y)
theorem md_ok (x y : Int) : (1 ≤ mdN x ∧ mdN x ≤ 6) ∧ mdH x y < mdN x := by
  have h1 := Int.emod_nonneg x (by omega : (6 : Int) ≠ 0)
  have h2 := Int.emod_lt_of_pos x (by omega : 0 < (6 : Int))
  have hn : 1 ≤ mdN x ∧ mdN x ≤ 6 := by unfold mdN; omega
  have h3 := Int.emod_nonneg y (by omega : (mdN x : Int) ≠ 0)
  have h4 := Int.emod_lt_of_pos y (by omega : 0 < (mdN x : Int))
  exact ⟨hn, by unfold mdH; omega⟩
theorem mdT_ok (x y : Int) : Ok (mdT x y) 0 := Ok.made (md_ok x y).1 (md_ok x y).2
set_option maxHeartbeats 2000000 in
theorem tmade_calls (w0 w : World) (hb : Below w0.heap.size w0 w) (x y : Int) (hx : 0 ≤ x ∧ x ≤ 255) (hy : 0 ≤ y ∧ y ≤ 255) : Calls Try.prog 13 #[.agg #[.int .u8 x, .int .u8 y]] w fun e w' => ∃ T, e = .returned (.tuple #[.pointer (some ⟨T, 0, none⟩), .int .i64 (mdN x)]) ∧ On w0 T (mdT x y) w' := by
  obtain ⟨hn, hh⟩ := md_ok x y
  obtain ⟨n, en⟩ : ∃ n, n = mdN x := ⟨_, rfl⟩
  obtain ⟨h, eh⟩ : ∃ h, h = mdH x y := ⟨_, rfl⟩
  have h1 := Int.emod_nonneg x (by omega : (6 : Int) ≠ 0)
  have h2 := Int.emod_lt_of_pos x (by omega : 0 < (6 : Int))
  have t1 : Int.tmod x 6 = x % 6 := Int.tmod_eq_emod_of_nonneg hx.1
  have t2 : Int.tmod y n = h := by
    rw [Int.tmod_eq_emod_of_nonneg hy.1, eh, en]
    unfold mdH
    have h3 := Int.emod_nonneg y (by omega : (mdN x : Int) ≠ 0)
    omega
  have en2 : x % 6 + 1 = n := by rw [en]; unfold mdN; omega
  obtain ⟨r, hr⟩ : ∃ r : Int, x % 6 = r := ⟨_, rfl⟩
  rw [hr] at t1 en2 h1 h2
  have hnz : ((n : Int) == 0) = false := by rw [beq_eq_false_iff_ne]; omega
  have CN := Lib.hid (fun w1 (hb : Below w0.heap.size w0 w1) => on_new w0 w1 hb hn hh)
  unfold mdT
  rw [← en, ← eh] at CN ⊢
  have hn6 : 1 ≤ n ∧ n ≤ 6 := by rw [en]; exact hn
  have hbb : Below w0.heap.size w0 (w.alloc (.cells #[.int .u8 x, .int .u8 y] 22)) := hb.alloc hb.size _
  have HB := Lib.hid hbb
  clear hb hn hh hr en eh hbb
  go_enter Try.func13, Try.ntmps13
  go_wp2_with fail
  refine (CN.out _ HB.out).mono ?_
  rintro e w1 ⟨T, rfl, ho⟩
  have HO := Lib.hid ho
  clear ho
  go_wp2_with fail
  go_ret2
  exact ⟨T, rfl, HO.out⟩
/-- An act that a byte stands for. -/
def TS.actC (t : TS) (x : Int) : Cal := t.cals.getD ((x / 4) % (t.cals.length : Nat)).toNat (0, 0, .tok)
def TS.act (t : TS) (x : Int) : TS := if x % 4 = 0 then t.want ((x / 4) % t.n) else if x % 4 = 1 then t.leaveI t.insI else if t.cals = [] then t else t.delI (t.actC x).1 (t.actC x).2.1
def TS.actB (t : TS) (x : Int) : Bool := if x % 4 = 0 then decide (t.wantE ((x / 4) % t.n) = 0) else false
theorem Ok.act {t : TS} {k : Nat} (h : Ok t k) (x : Int) : Ok (t.act x) (k + 1) := by
  unfold TS.act
  split
  · exact h.want _
  · split
    · exact h.leave _
    · split
      · exact ⟨h.1, h.2.mono (by omega)⟩
      · exact h.deliver _ _
set_option maxHeartbeats 4000000 in
theorem tw_act {w : World} {T : Nat} {t : TS} {X : Nat → Prop} {k : Nat} (h : Tw w T t X) (O : Ok t k) (hk : k ≤ 10000) (x : Int) (hx : 0 ≤ x ∧ x ≤ 255) : Calls Try.prog 15 #[.pointer (some ⟨T, 0, none⟩), .int .i64 (t.n : Nat), .int .u8 x] w fun e w' => e = .returned (.bool (t.actB x)) ∧ Stp T X w (t.act x) w' := by
  have CF := Lib.hid (tw_flight h O.2 hk)
  have hn := O.1.hn
  have hnz : ((t.n : Int) == 0) = false := by rw [beq_eq_false_iff_ne]; omega
  have CW : Hid (∀ w1, Below w.heap.size w w1 → ∀ i, Calls Try.prog 32 #[.pointer (some ⟨T, 0, none⟩), .int .i64 i] w1 fun e w' => e = .returned (.int .i64 (t.wantE i)) ∧ Stp T X w (t.want i) w') := fun w1 hb i => (tw_want (h.below hb) O.1 O.2 hk i).mono fun _ _ ⟨he, hs⟩ => ⟨he, stp_pre hb hs⟩
  have CL : Hid (∀ w1, Below w.heap.size w w1 → ∀ i, Calls Try.prog 34 #[.pointer (some ⟨T, 0, none⟩), .int .i64 i] w1 fun e w' => e = .returned (.int .i64 (t.leaveE i)) ∧ Stp T X w (t.leaveI i) w') := fun w1 hb i => (tw_leave (h.below hb) O.1 O.2 hk i).mono fun _ _ ⟨he, hs⟩ => ⟨he, stp_pre hb hs⟩
  have CI : Hid (∀ w1, Below w.heap.size w w1 → Calls Try.prog 18 #[.pointer (some ⟨T, 0, none⟩)] w1 fun e w' => e = .returned (.int .i64 t.insI) ∧ Below w.heap.size w w') := fun w1 hb => (tw_inside (h.below hb)).mono fun _ _ ⟨he, hs⟩ => ⟨he, hb.trans (hs.mono hb.size)⟩
  have CD : Hid (∀ w1, Below w.heap.size w w1 → ∀ a b, Calls Try.prog 37 #[.pointer (some ⟨T, 0, none⟩), .int .i64 a, .int .i64 b] w1 fun e w' => e = .returned (.int .i64 (t.delE a b)) ∧ Stp T X w (t.delI a b) w') := fun w1 hb a b => (tw_deliver (h.below hb) O.1 O.2 hk a b).mono fun _ _ ⟨he, hs⟩ => ⟨he, stp_pre hb hs⟩
  have HS : Hid (∀ w1, Below w.heap.size w w1 → Stp T X w t w1) := fun w1 hb => stp_post (stp_refl h rfl) hb
  have HLN : Hid (t.cals.length ≤ 60000) := by
    rw [cals_len]
    have h1 := O.2.s0
    have h2 := O.2.tt
    show t.tot ≤ 60000
    omega
  unfold TS.act TS.actB
  have h1 := Int.emod_nonneg x (by omega : (4 : Int) ≠ 0)
  have h2 := Int.emod_lt_of_pos x (by omega : 0 < (4 : Int))
  have t1 : Int.tmod x 4 = x % 4 := Int.tmod_eq_emod_of_nonneg hx.1
  obtain ⟨q, hq⟩ : ∃ q : Int, q = x / 4 := ⟨_, rfl⟩
  have t2 : Int.tdiv x 4 = q := by rw [hq]; exact Int.tdiv_eq_ediv_of_nonneg hx.1
  have hq2 : 0 ≤ q ∧ q ≤ 63 := by omega
  have HC : Hid (∀ (l : List Cal), t.cals = l → t.actC x = l.getD (q % (l.length : Nat)).toNat (0, 0, .tok)) := by
    intro l hl
    unfold TS.actC
    rw [hl, hq]
  rw [← hq]
  obtain ⟨r, hr⟩ : ∃ r : Int, r = x % 4 := ⟨_, rfl⟩
  rw [← hr] at h1 h2 t1 ⊢
  clear h hq hr
  have hr4 : r = 0 ∨ r = 1 ∨ r = 2 ∨ r = 3 := by omega
  have hend : r = 2 ∨ r = 3 → Calls Try.prog 15 #[.pointer (some ⟨T, 0, none⟩), .int .i64 (t.n : Nat), .int .u8 x] w fun e w' => e = .returned (.bool false) ∧ Stp T X w (if t.cals = [] then t else t.delI (t.actC x).1 (t.actC x).2.1) w' := by
    intro hr
    have hrr : ¬ r = 0 ∧ ¬ r = 1 := by omega
    obtain ⟨hr0, hr1⟩ := hrr
    clear hr hr4 h1 h2
    have hr0' : (r == 0) = false := by rw [beq_eq_false_iff_ne]; exact hr0
    have hr1' : (r == 1) = false := by rw [beq_eq_false_iff_ne]; exact hr1
    obtain ⟨l, hl⟩ : ∃ l, l = t.cals := ⟨_, rfl⟩
    have HCC := HC.out l hl.symm
    rw [← hl] at CF HLN ⊢
    clear hl HC
    cases l with
    | nil =>
      rw [if_pos rfl]
      clear HCC
      go_enter Try.func15, Try.ntmps15
      go_wp2_with fail
      refine CF.out.mono ?_
      rintro e w1 ⟨v, rfl, ho, hb⟩
      obtain ⟨A, c, rfl, _⟩ := ho.rd
      have HB := Lib.hid hb
      clear ho hb CF
      simp only [List.length_nil]
      go_wp2_with fail
      go_ret
      exact ⟨rfl, HS.out _ HB.out⟩
    | cons c0 l =>
      rw [if_neg (by simp)]
      obtain ⟨L, hL⟩ : ∃ L, L = (c0 :: l).length := ⟨_, rfl⟩
      have hLp : 0 < L := by rw [hL]; simp
      have e1 := Int.emod_nonneg q (by omega : (L : Int) ≠ 0)
      have e2 := Int.emod_lt_of_pos q (by omega : 0 < (L : Int))
      obtain ⟨m, hm⟩ : ∃ m : Nat, (m : Int) = q % L := ⟨(q % L).toNat, by omega⟩
      have hml : m < (c0 :: l).length := by rw [← hL]; omega
      have t3 : Int.tmod q L = m := by rw [hm]; exact Int.tmod_eq_emod_of_nonneg hq2.1
      have hac : t.actC x = (c0 :: l)[m] := by
        rw [HCC, ← hL, ← hm, Int.toNat_natCast]
        exact getD_lt _ () hml
      obtain ⟨cc, hcc⟩ : ∃ cc, cc = (c0 :: l)[m] := ⟨_, rfl⟩
      rw [← hcc] at hac
      rw [hac]
      have hL6 : L ≤ 60000 := by rw [hL]; exact HLN.out
      have hmL : m < L := by omega
      have z1 : (0 : Int) ≤ (m : Int) ∧ (m : Int) < L := by omega
      have hLz : ((L : Int) == 0) = false := by rw [beq_eq_false_iff_ne]; omega
      have hLp' : (0 : Int) < L := by omega
      have HCD : Hid (∀ w1 A c, OwC w1 w.heap.size (.slice A L c) (c0 :: l) → ∃ b o, A = some ⟨b, o, none⟩ ∧ w1.cell? ⟨b, o + m * 4, none⟩ = some (.int .i64 cc.1) ∧ w1.cell? ⟨b, o + m * 4 + 1, none⟩ = some (.int .i64 cc.2.1) ∧ w1.cell? ⟨b, o + m * 4 + 2, none⟩ = some (.bool cc.2.2.isTok) ∧ w1.cell? ⟨b, o + m * 4 + 3, none⟩ = some (.int .i64 cc.2.2.num)) := by
        intro w1 A c ho
        obtain ⟨A', c', e, _, _, _, hrd, _⟩ := ho.rd
        cases e
        obtain ⟨b, o, e, _, d1, d2, d3, d4⟩ := hrd.at m hml
        rw [← hcc] at d1 d2 d3 d4
        exact ⟨b, o, e, d1, d2, d3, d4⟩
      have HLC : Hid (∀ w1 v, OwC w1 w.heap.size v (c0 :: l) → ∃ A c, v = .slice A L c ∧ L ≤ c ∧ c ≤ 9223372036854775807) := by
        intro w1 v ho
        obtain ⟨A', c', e, h1, h2, _⟩ := ho.rd
        rw [← hL] at e h1
        exact ⟨A', c', e, h1, h2⟩
      obtain ⟨ca, cb, cm⟩ := cc
      obtain ⟨tb, htb⟩ : ∃ tb, tb = cm.isTok := ⟨_, rfl⟩
      obtain ⟨no, hno⟩ : ∃ no, no = cm.num := ⟨_, rfl⟩
      simp only at HCD
      rw [← htb, ← hno] at HCD
      clear hcc hm hml hL HCC hac e1 e2 htb hno hLp
      go_enter Try.func15, Try.ntmps15
      go_wp2_with fail
      refine CF.out.mono ?_
      rintro e w1 ⟨v, rfl, ho, hb⟩
      obtain ⟨A, c, rfl, hlc, hcm⟩ := HLC.out w1 v ho
      obtain ⟨b, o, rfl, d1, d2, d3, d4⟩ := HCD.out w1 A c ho
      have HB := Lib.hid hb
      have CD1 : Hid (∀ W, Below w.heap.size w W → Calls Try.prog 37 #[.pointer (some ⟨T, 0, none⟩), .int .i64 ca, .int .i64 cb] W fun e w' => e = .returned (.int .i64 (t.delE ca cb)) ∧ Stp T X w (t.delI ca cb) w') := fun W hW => CD.out W hW ca cb
      clear ho hb CF CD HLC HCD
      go_wp2_with fail
      refine (CD1.out _ (HB.out.alloc HB.out.size _)).mono ?_
      rintro e w2 ⟨rfl, hs⟩
      have HS2 := Lib.hid hs
      clear hs CD1
      go_wp2_with fail
      go_ret
      exact ⟨rfl, HS2.out⟩
  rcases hr4 with rfl | rfl | rfl | rfl
  · rw [if_pos rfl, if_pos rfl]
    have e1 := Int.emod_nonneg q (by omega : (t.n : Int) ≠ 0)
    have e2 := Int.emod_lt_of_pos q (by omega : 0 < (t.n : Int))
    have t3 : Int.tmod q t.n = q % t.n := Int.tmod_eq_emod_of_nonneg hq2.1
    obtain ⟨i, hi⟩ : ∃ i : Int, i = q % t.n := ⟨_, rfl⟩
    rw [← hi] at e1 e2 t3 ⊢
    clear hi hend h1 h2
    go_enter Try.func15, Try.ntmps15
    go_wp2_with fail
    refine CF.out.mono ?_
    rintro e w1 ⟨v, rfl, _, hb⟩
    have CW1 := Lib.hid (CW.out w1 hb i)
    clear hb CF CW
    go_wp2_with fail
    refine CW1.out.mono ?_
    rintro e w2 ⟨rfl, hs⟩
    have HS2 := Lib.hid hs
    obtain ⟨we, hwe⟩ : ∃ we, we = t.wantE i := ⟨_, rfl⟩
    have HWE := Lib.hid hwe
    rw [← hwe]
    clear hs CW1 hwe
    go_wp2_with fail
    go_ret
    exact ⟨ret_bool (by rw [HWE.out]; rfl), HS2.out⟩
  · rw [if_neg (by omega), if_neg (by omega), if_pos rfl]
    clear hend h1 h2
    go_enter Try.func15, Try.ntmps15
    go_wp2_with fail
    refine CF.out.mono ?_
    rintro e w1 ⟨v, rfl, _, hb⟩
    have CI1 := Lib.hid (CI.out w1 hb)
    clear hb CF
    go_wp2_with fail
    refine CI1.out.mono ?_
    rintro e w2 ⟨rfl, hb⟩
    have CL1 := Lib.hid (CL.out w2 hb t.insI)
    clear hb CL
    go_wp2_with fail
    refine CL1.out.mono ?_
    rintro e w3 ⟨rfl, hs⟩
    have HS2 := Lib.hid hs
    clear hs CL1
    go_wp2_with fail
    go_ret
    exact ⟨rfl, HS2.out⟩
  · rw [if_neg (by omega), if_neg (by omega), if_neg (by omega)]; exact hend (.inl rfl)
  · rw [if_neg (by omega), if_neg (by omega), if_neg (by omega)]; exact hend (.inr rfl)
end Go.Proofs.Ytahjgdikjaakbaa
