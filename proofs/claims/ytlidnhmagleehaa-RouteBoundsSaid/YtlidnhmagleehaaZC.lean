/- What is proved: the law of orders (G1). No condition beyond those in each statement. -/
import Derived.Test.YtlidnhmagleehaaZB
namespace Go.Proofs.Ytlidnhmagleehaa
open Go.RowKit

theorem permTo_iff {n : Nat} {xs : List Int} : ∀ k : Nat, k ≤ xs.length → (permTo n xs k = true ↔ (xs.take k).Nodup ∧ ∀ v ∈ xs.take k, 0 ≤ v ∧ v < n)
  | 0, _ => by simp [permTo]
  | k + 1, hk => by
    have hlt : k < xs.length := by omega
    have ih := permTo_iff (n := n) (xs := xs) k (by omega)
    rw [permTo_succ, Bool.and_eq_true, ih, List.take_succ_eq_append_getElem hlt, getD_lt (0 : Int) () hlt, List.nodup_append]
    unfold inB
    simp only [Bool.and_eq_true, decide_eq_true_eq, Bool.not_eq_true', List.any_eq_false, beq_iff_eq, List.mem_append, List.mem_singleton]
    constructor
    · rintro ⟨⟨h1, h2⟩, ⟨h3, h4⟩, h5⟩
      refine ⟨⟨h1, by simp, fun a ha b hb => by rw [hb]; exact h5 a ha⟩, fun v hv => ?_⟩
      rcases hv with hv | hv
      · exact h2 v hv
      · subst hv; omega
    · rintro ⟨⟨h1, _, h2⟩, h3⟩
      refine ⟨⟨h1, fun v hv => h3 v (.inl hv)⟩, ?_, fun a ha => h2 a ha _ rfl⟩
      have := h3 _ (.inr rfl)
      omega
theorem permB_iff {n : Nat} {xs : List Int} : permB n xs = true ↔ IsOrd n xs := by
  unfold permB
  rw [Bool.and_eq_true, permTo_iff xs.length (Nat.le_refl _), List.take_length, isOrd_iff, decide_eq_true_eq]
  constructor
  · rintro ⟨⟨h1, h2⟩, h3⟩
    exact ⟨by omega, h1, h2⟩
  · rintro ⟨h1, h2, h3⟩
    exact ⟨⟨h2, h3⟩, by omega⟩
theorem perm_true {n : Nat} {xs : List Int} (h : IsOrd n xs) : permB n xs = true := permB_iff.2 h
theorem least_is {cost : List Int → Int} {n : Nat} {b : Int} {p : List Int} (h : leastF cost n = some (b, p)) : IsOrd n p ∧ b = cost p ∧ ∀ o, IsOrd n o → b ≤ cost o := by
  obtain ⟨b', p', h', r⟩ := least_spec cost n
  rw [h] at h'
  cases h'
  exact r
set_option maxRecDepth 100000 in
set_option maxHeartbeats 16000000 in
theorem orderslaw_calls (x : Int) (A : Option Addr) (m c : Nat) (ps : List (Int × Int)) (B : Option Addr) (m2 c2 : Nat) (bs : List Int) (w : World) (hx : 0 ≤ x ∧ x ≤ 255) (hm : m = ps.length) (hA : RdP w A ps) (hl : m ≤ c) (hc : c ≤ 9223372036854775807) (hps : ∀ p ∈ ps, (0 ≤ p.1 ∧ p.1 ≤ 255) ∧ (0 ≤ p.2 ∧ p.2 ≤ 255))
    (hm2 : m2 = bs.length) (hB : RdU w B bs) (hl2 : m2 ≤ c2) (hc2 : c2 ≤ 9223372036854775807) (hbs : ∀ b ∈ bs, 0 ≤ b ∧ b ≤ 255) :
    Calls Try.prog 4 #[.int .u8 x, .slice A m c, .slice B m2 c2] w fun e w' => e = .returned (.bool true) ∧ Below w.heap.size w w' := by
  have CM := Lib.hid (made_calls x A m c ps 8 w hx (by omega) hm hA hl hc hps)
  have CO := Lib.hid (fun (n : Nat) (hn : n ≤ 20) (W : World) (h : RdU W B bs) => order_calls n hn B m2 c2 bs W hm2 h hl2 hc2 hbs)
  have HBU := Lib.hid hB
  clear hm hA hps hm2 hB hbs
  go_enter Try.func4, Try.ntmps4
  go_wp2_with fail
  refine CM.out.mono ?_
  rintro e w1 ⟨k, es, g, cg, hk, h20, hg, rfl, ho, hB⟩
  have HBU := Lib.hid (HBU.out.below hB)
  have HE := Lib.hid ho.rd
  have HG := Lib.hid hg
  have HW := Lib.hid hB
  have hbd := ho.bd
  have h30 : es.length ≤ 30 := by omega
  obtain ⟨b1, p1, l1⟩ := least_ex (costB es) k
  obtain ⟨b2, p2, l2⟩ := least_ex (costC es) k
  obtain ⟨b3, p3, l3⟩ := least_ex (costS es) k
  obtain ⟨i1, e1, m1⟩ := least_is l1
  obtain ⟨i2, e2, m2'⟩ := least_is l2
  obtain ⟨i3, e3, m3⟩ := least_is l3
  have HCK := Lib.hid (check_ok hk h30 hg)
  obtain ⟨L, hL⟩ : ∃ L, L = es.length := ⟨_, rfl⟩
  rw [← hL] at hbd h20 ⊢
  have HL := Lib.hid hL
  have H30 := Lib.hid h30
  have C1 := Lib.hid (fun (W : World) (h : RdE W (some ⟨g, 0, none⟩) es) => (Band_calls k (some ⟨g, 0, none⟩) L cg es W hL h hbd.1 hbd.2).mono fun e w' h => h.ok HCK.out (by rw [Int.toNat_natCast]; exact l1))
  have C2 := Lib.hid (fun (W : World) (h : RdE W (some ⟨g, 0, none⟩) es) => (Cut_calls k (some ⟨g, 0, none⟩) L cg es W hL h hbd.1 hbd.2).mono fun e w' h => h.ok HCK.out (by rw [Int.toNat_natCast]; exact l2))
  have C3 := Lib.hid (fun (W : World) (h : RdE W (some ⟨g, 0, none⟩) es) => (Arrange_calls k (some ⟨g, 0, none⟩) L cg es W hL h hbd.1 hbd.2).mono fun e w' h => h.ok HCK.out (by rw [Int.toNat_natCast]; exact l3))
  have CP := Lib.hid (fun (cc : Nat) (a : Option Addr) (q : List Int) (hq : IsOrd k q) (hk1 : k ≤ cc) (hc1 : cc ≤ 9223372036854775807) (W : World) (h : Rd W a q) => perm_calls a k cc q k W hq.len.symm h hk1 hc1 (by omega))
  have CR := Lib.hid (fun (cc : Nat) (a : Option Addr) (q : List Int) (hq : IsOrd k q) (hk1 : k ≤ cc) (hc1 : cc ≤ 9223372036854775807) (W : World) (hE : RdE W (some ⟨g, 0, none⟩) es) (h : Rd W a q) => rmeasure_calls k hk (some ⟨g, 0, none⟩) L cg es a k cc q W hL (by omega) hg hE hbd.1 hbd.2 rfl hq h hk1 hc1)
  have I1 := Lib.hid i1
  have I2 := Lib.hid i2
  have I3 := Lib.hid i3
  have E1 : Hid (bandF (posF p1) es = b1) := e1.symm
  have E2 : Hid (cutF (posF p2) es = b2) := e2.symm
  have E3 : Hid (totalF (posF p3) es = b3) := e3.symm
  have M1 := Lib.hid m1
  have M2 := Lib.hid m2'
  have M3 := Lib.hid m3
  clear ho hB hg hL h30 l1 l2 l3 i1 i2 i3 e1 e2 e3 m1 m2' m3
  go_wp2_with fail
  refine (C1.out _ HE.out).mono ?_
  rintro e w2 ⟨g1, c1, rfl, hA1, hB1⟩
  rw [I1.out.len]
  have hb1 := hA1.bd
  rw [I1.out.len] at hb1
  have R1 := Lib.hid hA1.rd
  have HE := Lib.hid (HE.out.below hB1)
  have HBU := Lib.hid (HBU.out.below hB1)
  have HW := Lib.hid (HW.out.trans (hB1.mono HW.out.size))
  clear hA1 hB1
  go_wp2_with fail
  refine (C2.out _ HE.out).mono ?_
  rintro e w3 ⟨g2, c2', rfl, hA1, hB1⟩
  rw [I2.out.len]
  have hb2 := hA1.bd
  rw [I2.out.len] at hb2
  have R1 := Lib.hid (R1.out.below hB1)
  have R2 := Lib.hid hA1.rd
  have HE := Lib.hid (HE.out.below hB1)
  have HBU := Lib.hid (HBU.out.below hB1)
  have HW := Lib.hid (HW.out.trans (hB1.mono HW.out.size))
  clear hA1 hB1
  go_wp2_with fail
  refine (C3.out _ HE.out).mono ?_
  rintro e w4 ⟨g3, c3, rfl, hA1, hB1⟩
  rw [I3.out.len]
  have hb3 := hA1.bd
  rw [I3.out.len] at hb3
  have R1 := Lib.hid (R1.out.below hB1)
  have R2 := Lib.hid (R2.out.below hB1)
  have R3 := Lib.hid hA1.rd
  have HE := Lib.hid (HE.out.below hB1)
  have HBU := Lib.hid (HBU.out.below hB1)
  have HW := Lib.hid (HW.out.trans (hB1.mono HW.out.size))
  clear hA1 hB1
  go_wp2_with fail
  refine (CP.out c1 _ p1 I1.out hb1.1 hb1.2 _ R1.out).mono ?_
  rintro e w5 ⟨rfl, hB1⟩
  rw [perm_true I1.out]
  have R1 := Lib.hid (R1.out.below hB1)
  have R2 := Lib.hid (R2.out.below hB1)
  have R3 := Lib.hid (R3.out.below hB1)
  have HE := Lib.hid (HE.out.below hB1)
  have HBU := Lib.hid (HBU.out.below hB1)
  have HW := Lib.hid (HW.out.trans (hB1.mono HW.out.size))
  clear hB1
  go_wp2_with fail
  refine (CP.out c2' _ p2 I2.out hb2.1 hb2.2 _ R2.out).mono ?_
  rintro e w6 ⟨rfl, hB1⟩
  rw [perm_true I2.out]
  have R1 := Lib.hid (R1.out.below hB1)
  have R2 := Lib.hid (R2.out.below hB1)
  have R3 := Lib.hid (R3.out.below hB1)
  have HE := Lib.hid (HE.out.below hB1)
  have HBU := Lib.hid (HBU.out.below hB1)
  have HW := Lib.hid (HW.out.trans (hB1.mono HW.out.size))
  clear hB1
  go_wp2_with fail
  refine (CP.out c3 _ p3 I3.out hb3.1 hb3.2 _ R3.out).mono ?_
  rintro e w7 ⟨rfl, hB1⟩
  rw [perm_true I3.out]
  have R1 := Lib.hid (R1.out.below hB1)
  have R2 := Lib.hid (R2.out.below hB1)
  have R3 := Lib.hid (R3.out.below hB1)
  have HE := Lib.hid (HE.out.below hB1)
  have HBU := Lib.hid (HBU.out.below hB1)
  have HW := Lib.hid (HW.out.trans (hB1.mono HW.out.size))
  clear hB1
  go_wp2_with fail
  refine (lives_calls _).mono ?_
  rintro e w8 ⟨rfl, hB1⟩
  have R1 := Lib.hid (R1.out.below hB1)
  have R2 := Lib.hid (R2.out.below hB1)
  have R3 := Lib.hid (R3.out.below hB1)
  have HE := Lib.hid (HE.out.below hB1)
  have HBU := Lib.hid (HBU.out.below hB1)
  have HW := Lib.hid (HW.out.trans (hB1.mono HW.out.size))
  clear hB1
  go_wp2_with fail
  refine (CR.out c1 _ p1 I1.out hb1.1 hb1.2 _ HE.out R1.out).mono ?_
  rintro e w9 ⟨rfl, hB1⟩
  rw [E1.out]
  have R1 := Lib.hid (R1.out.below hB1)
  have R2 := Lib.hid (R2.out.below hB1)
  have R3 := Lib.hid (R3.out.below hB1)
  have HE := Lib.hid (HE.out.below hB1)
  have HBU := Lib.hid (HBU.out.below hB1)
  have HW := Lib.hid (HW.out.trans (hB1.mono HW.out.size))
  clear hB1
  go_wp2_with fail
  refine (CR.out c2' _ p2 I2.out hb2.1 hb2.2 _ HE.out R2.out).mono ?_
  rintro e w10 ⟨rfl, hB1⟩
  rw [E2.out]
  have R1 := Lib.hid (R1.out.below hB1)
  have R2 := Lib.hid (R2.out.below hB1)
  have R3 := Lib.hid (R3.out.below hB1)
  have HE := Lib.hid (HE.out.below hB1)
  have HBU := Lib.hid (HBU.out.below hB1)
  have HW := Lib.hid (HW.out.trans (hB1.mono HW.out.size))
  clear hB1
  go_wp2_with fail
  refine (CR.out c3 _ p3 I3.out hb3.1 hb3.2 _ HE.out R3.out).mono ?_
  rintro e w11 ⟨rfl, hB1⟩
  rw [E3.out]
  have R1 := Lib.hid (R1.out.below hB1)
  have R2 := Lib.hid (R2.out.below hB1)
  have R3 := Lib.hid (R3.out.below hB1)
  have HE := Lib.hid (HE.out.below hB1)
  have HBU := Lib.hid (HBU.out.below hB1)
  have HW := Lib.hid (HW.out.trans (hB1.mono HW.out.size))
  clear hB1
  go_wp2_with fail
  refine (CO.out k (by omega) _ HBU.out).mono ?_
  rintro e w12 ⟨o, go, co, hord, rfl, har, hB1⟩
  have HAR := Lib.hid har.rd
  have hkc := har.bd
  rw [hord.len] at hkc
  have HOL := Lib.hid hord.len
  have hbad := meas_ok hk H30.out HG.out hord
  have HM : Hid (MeasR k es o = (bandF (posF o) es, cutF (posF o) es, totalF (posF o) es, 0)) := by show _ = _; unfold MeasR; rw [if_neg (by rw [hbad]; simp)]
  have q1 : b1 ≤ bandF (posF o) es := M1.out o hord
  have q2 : b2 ≤ cutF (posF o) es := M2.out o hord
  have q3 : b3 ≤ totalF (posF o) es := M3.out o hord
  clear har hord hbad
  have HE := Lib.hid (HE.out.below hB1)
  have HW := Lib.hid (HW.out.trans (hB1.mono HW.out.size))
  clear hB1
  go_wp2_with fail
  refine (measure_calls k (some ⟨g, 0, none⟩) L cg es (some ⟨go, 0, none⟩) k co o _ HL.out HE.out hbd.1 hbd.2 HOL.out.symm HAR.out hkc.1 hkc.2).mono ?_
  rintro e w13 ⟨rfl, hB1⟩
  rw [HM.out]
  obtain ⟨Q1, hQ1⟩ : ∃ q, q = bandF (posF o) es := ⟨_, rfl⟩
  obtain ⟨Q2, hQ2⟩ : ∃ q, q = cutF (posF o) es := ⟨_, rfl⟩
  obtain ⟨Q3, hQ3⟩ : ∃ q, q = totalF (posF o) es := ⟨_, rfl⟩
  rw [← hQ1] at q1
  rw [← hQ2] at q2
  rw [← hQ3] at q3
  rw [← hQ1, ← hQ2, ← hQ3]
  have t1 : decide (Q1 ≥ b1) = true := decide_eq_true (by omega)
  have t2 : decide (Q2 ≥ b2) = true := decide_eq_true (by omega)
  have t3 : decide (Q3 ≥ b3) = true := decide_eq_true (by omega)
  clear hQ1 hQ2 hQ3
  have HW := Lib.hid (HW.out.trans (hB1.mono HW.out.size))
  clear hB1
  go_wp2_with fail
  go_ret
  exact ⟨rfl, HW.out⟩
end Go.Proofs.Ytlidnhmagleehaa
