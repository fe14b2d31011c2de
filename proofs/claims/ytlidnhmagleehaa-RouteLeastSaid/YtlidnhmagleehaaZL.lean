/- What is proved: SameLists, the law of least orders. No condition beyond those in each statement. -/
import Derived.Test.YtlidnhmagleehaaZK
namespace Go.Proofs.Ytlidnhmagleehaa
open Go.RowKit

def RowEq (w : World) (ga gb i : Nat) : Prop := ∃ (xs : List Int) (A1 A2 : Option Addr) (c1 c2 : Nat), w.cell? ⟨ga, i, none⟩ = some (.slice A1 xs.length c1) ∧ w.cell? ⟨gb, i, none⟩ = some (.slice A2 xs.length c2) ∧ Rd w A1 xs ∧ Rd w A2 xs ∧ (xs.length ≤ c1 ∧ c1 ≤ 9223372036854775807) ∧ (xs.length ≤ c2 ∧ c2 ≤ 9223372036854775807)
theorem RowEq.below {w w' : World} {ga gb i : Nat} (h : RowEq w ga gb i) (hb : Below w.heap.size w w') : RowEq w' ga gb i := by
  obtain ⟨xs, A1, A2, c1, c2, h1, h2, h3, h4, h5⟩ := h
  exact ⟨xs, A1, A2, c1, c2, (hb.cell (p := ⟨ga, i, none⟩) (World.block_lt_of_cell? _ _ h1)).trans h1, (hb.cell (p := ⟨gb, i, none⟩) (World.block_lt_of_cell? _ _ h2)).trans h2, h3.below hb, h4.below hb, h5⟩
def SlI (w : World) (q : Value) (wr : World) : Prop := ∃ i : Nat, q = .int .i64 i ∧ i ≤ 3 ∧ Hid (Below w.heap.size w wr)
theorem keep2 {w w' : World} {p1 p2 : Addr} {v1 v2 : Value} (h1 : w.cell? p1 = some v1) (h2 : w.cell? p2 = some v2) (hb : Below w.heap.size w w') : w'.cell? p1 = some v1 ∧ w'.cell? p2 = some v2 ∧ Below w.heap.size w w' :=
  ⟨(hb.cell (World.block_lt_of_cell? _ _ h1)).trans h1, (hb.cell (World.block_lt_of_cell? _ _ h2)).trans h2, hb⟩
set_option maxHeartbeats 4000000 in
theorem slists_true (ga gb c d : Nat) (w : World) (hr : ∀ i, i < 3 → RowEq w ga gb i) (hc : 3 ≤ c ∧ c ≤ 9223372036854775807) (hd : 3 ≤ d ∧ d ≤ 9223372036854775807) :
    Calls Try.prog 22 #[.slice (some ⟨ga, 0, none⟩) 3 c, .slice (some ⟨gb, 0, none⟩) 3 d] w fun e w' => e = .returned (.bool true) ∧ Below w.heap.size w w' := by
  have HR := Lib.hid hr
  clear hr
  go_enter Try.func22, Try.ntmps22
  go_wp2_with fail
  go_loopw [5] (SlI w) (fun q _ => 3 - (intOf q).toNat)
  case atStart => exact ⟨0, rfl, by omega, Lib.hid (Below.refl _ _)⟩
  case round =>
    obtain ⟨i, rfl, hi, HB⟩ := hrel
    obtain ⟨W, hW⟩ : ∃ q, q = wr := ⟨_, rfl⟩
    rw [← hW] at HB ⊢
    clear hW
    by_cases hlt : i < 3
    · obtain ⟨xs, A1, A2, c1, c2, h1, h2, h3, h4, h5, h6⟩ := (HR.out i hlt).below HB.out
      have CS := Lib.hid (fun (W' : World) (h : Below W.heap.size W W') => same_true (xs := xs) (w := W') rfl (h3.below h) h5.1 h5.2 rfl (h4.below h) h6.1 h6.2)
      have wi : IntKind.i64.wrap ((i : Int) + 1) = (i : Int) + 1 := IntWalk.i64_in _ (by omega)
      have z1 : (0 : Int) ≤ (i : Int) ∧ (i : Int) < 3 := by omega
      obtain ⟨n, hn⟩ : ∃ n, n = xs.length := ⟨_, rfl⟩
      rw [← hn] at h1 h2 CS
      clear h3 h4 h5 h6 hn
      go_wp2_with fail
      go_region_held3 (fun w' => w'.cell? ⟨ga, i, none⟩ = some (.slice A1 n c1) ∧ w'.cell? ⟨gb, i, none⟩ = some (.slice A2 n c2) ∧ Below W.heap.size W w')
        ((refine keep2 h1 h2 ?_; repeat (first | with_reducible exact Below.refl _ _ | with_reducible refine Below.drew ?_ | with_reducible refine Below.trans ?_ (hB9.mono (by first | (simp; done) | omega)))))
        ((first
          | (go_at_call 21; (with_reducible refine (CS.out _ (by repeat (first | with_reducible exact Below.refl _ _ | with_reducible refine Below.drew ?_))).mono ?_); rintro e w9 ⟨rfl, hB9⟩)))
      all_goals
        have hB8 : Below W.heap.size W w9 := (by repeat (first | with_reducible exact Below.refl _ _ | with_reducible refine Below.drew ?_ | with_reducible refine Below.trans ?_ (hB9.mono (by first | (simp; done) | omega))))
        have HB8 := Lib.hid (HB.out.trans (hB8.mono HB.out.size))
        clear hB8 hB9 h1 h2
        go_wp2_with fail
        go_roundw
        case rel => exact ⟨i + 1, by go_num, by omega, HB8⟩
        case measure => simp [intOf]; omega
    · have e : i = 3 := by omega
      subst e
      go_wp2_with fail
      go_ret
      exact ⟨rfl, HB.out⟩
theorem lst_ways (n : Int) (es : List (Int × Int)) : checkF n es = 1 ∨ checkF n es = 3 ∨ ∃ k : Nat, n = k ∧ (1 ≤ k ∧ k ≤ 8) ∧ es.length ≤ 30 ∧ IsG k es ∧ checkF n es = 0 := by
  rcases check_val n es with ⟨hv, h30, hn, hbad⟩ | h1 | h3
  · obtain ⟨q, rfl⟩ : ∃ q : Nat, n = q := ⟨n.toNat, by omega⟩
    exact .inr (.inr ⟨q, rfl, by omega, h30, (edOk_of hbad).2, hv⟩)
  · exact .inl h1
  · exact .inr (.inl h3)
theorem FindR.bad {w0 w' : World} {n : Int} {es : List (Int × Int)} {cost : List Int → Int} {e : Ending} {v : Int} (hc : checkF n es = v) (hv : v ≠ 0) (h : FindR w0 n es cost e w') :
    e = .returned (.tuple #[.int .i64 0, .slice none 0 0, .int .i64 v]) ∧ Below w0.heap.size w0 w' := by
  obtain ⟨h1, h2⟩ := h
  rw [hc, if_pos hv] at h2
  exact ⟨h2, h1⟩
theorem vals_of {N gP gv go : Nat} {st : Nat → Option (Int × List Int)} {w : World} {b0 b1 b2 : Int} {p0 p1 p2 : List Int} (h : Bst N gP gv go st w) (s0 : st 0 = some (b0, p0)) (s1 : st 1 = some (b1, p1)) (s2 : st 2 = some (b2, p2)) :
    Rd w (some ⟨gv, 0, none⟩) [b0, b1, b2] ∧ w.cell? ⟨gP, 0, none⟩ = some (.slice (some ⟨gv, 0, none⟩) 3 3) ∧ w.cell? ⟨gP, 1, none⟩ = some (.slice (some ⟨go, 0, none⟩) 3 3) ∧
      ∀ i, i < 3 → ∀ b p, st i = some (b, p) → ∃ g c, w.cell? ⟨go, i, none⟩ = some (.slice (some ⟨g, 0, none⟩) p.length c) ∧ (p.length ≤ c ∧ c ≤ 9223372036854775807) ∧ Rd w (some ⟨g, 0, none⟩) p := by
  obtain ⟨vals, ovs, ⟨h1, h2, h3, h4, h5, h6, _⟩, hs⟩ := h
  have q0 := hs 0 (by omega)
  have q1 := hs 1 (by omega)
  have q2 := hs 2 (by omega)
  rw [s0] at q0
  rw [s1] at q1
  rw [s2] at q2
  have e : vals = [b0, b1, b2] := by
    match vals, h1, q0.1, q1.1, q2.1 with
    | [x, y, z], _, r0, r1, r2 =>
      simp at r0 r1 r2
      rw [r0, r1, r2]
  refine ⟨e ▸ h3.rd, h5, h6, fun i hi b p hsi => ?_⟩
  have q := hs i hi
  rw [hsi] at q
  obtain ⟨_, g, c, r1, r2, r3, r4, _⟩ := q
  have hio : i < ovs.length := by omega
  refine ⟨g, c, ?_, ⟨r2, r3⟩, r4⟩
  rw [h4.at i hio, ← r1]
  simp [List.getD_eq_getElem?_getD, hio]
set_option maxRecDepth 100000 in
set_option maxHeartbeats 16000000 in
theorem leastlaw_calls (n : Int) (A : Option Addr) (m c : Nat) (es : List (Int × Int)) (w : World) (_hn : -9223372036854775808 ≤ n ∧ n ≤ 9223372036854775807)
    (hm : m = es.length) (hA : RdE w A es) (hl : m ≤ c) (hc : c ≤ 9223372036854775807) (hnA : A = none → c = 0) (_hwf : ∀ e ∈ es, (Lit.int .i64 e.1).wf = true ∧ (Lit.int .i64 e.2).wf = true) :
    Calls Try.prog 3 #[.int .i64 n, .slice A m c] w fun e w' => e = .returned (.bool true) ∧ Below w.heap.size w w' := by
  have CF := Lib.hid (few_calls A m c es w hm hA hl hc hnA)
  clear hm hA hnA _hwf
  go_enter Try.func3, Try.ntmps3
  go_wp2_with fail
  refine CF.out.mono ?_
  rintro e w1 ⟨g, cg, rfl, ho, hB1⟩
  have hbd := ho.bd
  have hglt := (World.ownsRow.lt ho g rfl).2
  have HE := Lib.hid ho.rd
  have HW := Lib.hid hB1
  obtain ⟨fs, hfs⟩ : ∃ fs, fs = es.take 31 := ⟨_, rfl⟩
  rw [← hfs] at hbd HE ⊢
  obtain ⟨L, hL⟩ : ∃ L, L = fs.length := ⟨_, rfl⟩
  rw [← hL] at hbd ⊢
  have HL := Lib.hid hL
  have HGL := Lib.hid hglt
  clear ho hB1 hL hfs hglt
  have CG := Lib.hid (fun (W : World) (hE : RdE W (some ⟨g, 0, none⟩) fs) => graph_calls (some ⟨g, 0, none⟩) L cg fs n W HL.out hE hbd.1 hbd.2)
  have C1 := Lib.hid (fun (W : World) (h : RdE W (some ⟨g, 0, none⟩) fs) => Band_calls n (some ⟨g, 0, none⟩) L cg fs W HL.out h hbd.1 hbd.2)
  have C2 := Lib.hid (fun (W : World) (h : RdE W (some ⟨g, 0, none⟩) fs) => Cut_calls n (some ⟨g, 0, none⟩) L cg fs W HL.out h hbd.1 hbd.2)
  have C3 := Lib.hid (fun (W : World) (h : RdE W (some ⟨g, 0, none⟩) fs) => Arrange_calls n (some ⟨g, 0, none⟩) L cg fs W HL.out h hbd.1 hbd.2)
  go_wp2_with fail
  refine (CG.out _ HE.out).mono ?_
  rintro e w2 ⟨rfl, hB1⟩
  have HS2 := Lib.hid hB1.size
  have HE := Lib.hid (HE.out.below hB1)
  have HW := Lib.hid (HW.out.trans (hB1.mono HW.out.size))
  clear hB1
  rcases lst_ways n fs with hck | hck | ⟨k, hnk, hk, h30, hg, hck⟩
  · rw [hck]
    have HCK := Lib.hid hck
    clear hck
    go_wp2_with fail
    refine (C1.out _ HE.out).mono ?_
    intro e w3 h
    obtain ⟨rfl, hB1⟩ := h.bad HCK.out (by decide)
    clear h
    have HE := Lib.hid (HE.out.below hB1)
    have HW := Lib.hid (HW.out.trans (hB1.mono HW.out.size))
    clear hB1
    go_wp2_with fail
    refine (C2.out _ HE.out).mono ?_
    intro e w3 h
    obtain ⟨rfl, hB1⟩ := h.bad HCK.out (by decide)
    clear h
    have HE := Lib.hid (HE.out.below hB1)
    have HW := Lib.hid (HW.out.trans (hB1.mono HW.out.size))
    clear hB1
    go_wp2_with fail
    refine (C3.out _ HE.out).mono ?_
    intro e w3 h
    obtain ⟨rfl, hB1⟩ := h.bad HCK.out (by decide)
    clear h
    have HE := Lib.hid (HE.out.below hB1)
    have HW := Lib.hid (HW.out.trans (hB1.mono HW.out.size))
    clear hB1
    go_wp2_with fail
    refine (lives_calls _).mono ?_
    rintro e w12 ⟨rfl, hB1⟩
    have HW := Lib.hid (HW.out.trans (hB1.mono HW.out.size))
    clear hB1
    go_wp2_with fail
    go_ret
    exact ⟨rfl, HW.out⟩
  · rw [hck]
    have HCK := Lib.hid hck
    clear hck
    go_wp2_with fail
    refine (C1.out _ HE.out).mono ?_
    intro e w3 h
    obtain ⟨rfl, hB1⟩ := h.bad HCK.out (by decide)
    clear h
    have HE := Lib.hid (HE.out.below hB1)
    have HW := Lib.hid (HW.out.trans (hB1.mono HW.out.size))
    clear hB1
    go_wp2_with fail
    refine (C2.out _ HE.out).mono ?_
    intro e w3 h
    obtain ⟨rfl, hB1⟩ := h.bad HCK.out (by decide)
    clear h
    have HE := Lib.hid (HE.out.below hB1)
    have HW := Lib.hid (HW.out.trans (hB1.mono HW.out.size))
    clear hB1
    go_wp2_with fail
    refine (C3.out _ HE.out).mono ?_
    intro e w3 h
    obtain ⟨rfl, hB1⟩ := h.bad HCK.out (by decide)
    clear h
    have HE := Lib.hid (HE.out.below hB1)
    have HW := Lib.hid (HW.out.trans (hB1.mono HW.out.size))
    clear hB1
    go_wp2_with fail
    refine (lives_calls _).mono ?_
    rintro e w12 ⟨rfl, hB1⟩
    have HW := Lib.hid (HW.out.trans (hB1.mono HW.out.size))
    clear hB1
    go_wp2_with fail
    go_ret
    exact ⟨rfl, HW.out⟩
  · rw [hck]
    have HCK := Lib.hid hck
    by_cases h8 : k = 8
    · have t9 : decide (n > 7) = true := decide_eq_true (by omega)
      clear hck hg h30 hnk h8
      go_wp2_with fail
      refine (lives_calls _).mono ?_
      rintro e w12 ⟨rfl, hB1⟩
      have HW := Lib.hid (HW.out.trans (hB1.mono HW.out.size))
      clear hB1
      go_wp2_with fail
      go_ret
      exact ⟨rfl, HW.out⟩
    · have t9 : decide (n > 7) = false := decide_eq_false (by omega)
      obtain ⟨b0, p0, l0⟩ := least_ex (costB fs) k
      obtain ⟨b1, p1, l1⟩ := least_ex (costC fs) k
      obtain ⟨b2, p2, l2⟩ := least_ex (costS fs) k
      have L0 : Hid (leastF (costB fs) n.toNat = some (b0, p0)) := by show _ = _; rw [hnk, Int.toNat_natCast]; exact l0
      have L1 : Hid (leastF (costC fs) n.toNat = some (b1, p1)) := by show _ = _; rw [hnk, Int.toNat_natCast]; exact l1
      have L2 : Hid (leastF (costS fs) n.toNat = some (b2, p2)) := by show _ = _; rw [hnk, Int.toNat_natCast]; exact l2
      have I0 : Hid (p0.length = k) := (least_is l0).1.len
      have I1 : Hid (p1.length = k) := (least_is l1).1.len
      have I2 : Hid (p2.length = k) := (least_is l2).1.len
      have S0 := Lib.hid l0
      have S1 := Lib.hid l1
      have S2 := Lib.hid l2
      have CA : Hid (∀ (W : World), RdE W (some ⟨g, 0, none⟩) fs → w1.heap.size ≤ W.heap.size → Calls Try.prog 20 #[.int .i64 n, .slice (some ⟨g, 0, none⟩) L cg] W fun e w' => ∃ gP gv go, e = .returned (.pointer (some ⟨gP, 0, none⟩)) ∧ Bst W.heap.size gP gv go (fun i => leastF (cst fs i) k) w' ∧ Below W.heap.size W w') := by
        intro W hE hs
        rw [hnk]
        exact All_calls k hk g L cg fs W HL.out (by have := HL.out; omega) hg hE (by have := HGL.out; omega) hbd.1 hbd.2
      have hk0 : 0 ≤ k := Nat.zero_le _
      clear hck hg h30 l0 l1 l2 hnk h8
      go_wp2_with fail
      refine (C1.out _ HE.out).mono ?_
      intro e w3 h
      obtain ⟨g0, c0, rfl, ha, hB1⟩ := h.ok HCK.out L0.out
      rw [I0.out]
      have hb0 := ha.bd
      rw [I0.out] at hb0
      have R0 := Lib.hid ha.rd
      have HS2 := Lib.hid (Nat.le_trans HS2.out hB1.size)
      clear h ha
      have HE := Lib.hid (HE.out.below hB1)
      have HW := Lib.hid (HW.out.trans (hB1.mono HW.out.size))
      clear hB1
      go_wp2_with fail
      refine (C2.out _ HE.out).mono ?_
      intro e w4 h
      obtain ⟨g1, c1, rfl, ha, hB1⟩ := h.ok HCK.out L1.out
      rw [I1.out]
      have hb1 := ha.bd
      rw [I1.out] at hb1
      have R1 := Lib.hid ha.rd
      have HS2 := Lib.hid (Nat.le_trans HS2.out hB1.size)
      clear h ha
      have HE := Lib.hid (HE.out.below hB1)
      have R0 := Lib.hid (R0.out.below hB1)
      have HW := Lib.hid (HW.out.trans (hB1.mono HW.out.size))
      clear hB1
      go_wp2_with fail
      refine (C3.out _ HE.out).mono ?_
      intro e w5 h
      obtain ⟨g2, c2, rfl, ha, hB1⟩ := h.ok HCK.out L2.out
      rw [I2.out]
      have hb2 := ha.bd
      rw [I2.out] at hb2
      have R2 := Lib.hid ha.rd
      have HS2 := Lib.hid (Nat.le_trans HS2.out hB1.size)
      clear h ha
      have HE := Lib.hid (HE.out.below hB1)
      have R0 := Lib.hid (R0.out.below hB1)
      have R1 := Lib.hid (R1.out.below hB1)
      have HW := Lib.hid (HW.out.trans (hB1.mono HW.out.size))
      clear hB1
      go_wp2_with fail
      refine (CA.out _ HE.out HS2.out).mono ?_
      rintro e w6 ⟨gP, gv, go, rfl, hst, hB1⟩
      obtain ⟨hv, hP0, hP1, hrw⟩ := vals_of hst (show leastF (cst fs 0) k = _ from S0.out) (show leastF (cst fs 1) k = _ from S1.out) (show leastF (cst fs 2) k = _ from S2.out)
      have R0 := Lib.hid (R0.out.below hB1)
      have R1 := Lib.hid (R1.out.below hB1)
      have R2 := Lib.hid (R2.out.below hB1)
      have HW := Lib.hid (HW.out.trans (hB1.mono HW.out.size))
      clear hB1
      obtain ⟨W7, hW7⟩ : ∃ W7 : World, W7 = w6.alloc (.cells #[.int .i64 b0, .int .i64 b1, .int .i64 b2] 3) := ⟨_, rfl⟩
      have hB7 : Below w6.heap.size w6 W7 := by rw [hW7]; exact (Below.refl _ _).alloc (Nat.le_refl _) _
      have HN7 : Hid (Rd W7 (some ⟨w6.heap.size, 0, none⟩) [b0, b1, b2]) := by rw [hW7]; exact rd_lit w6 [b0, b1, b2] _ rfl
      have HV := Lib.hid (hv.below hB7)
      have c0' := (hB7.cell (p := ⟨gP, 0, none⟩) (World.block_lt_of_cell? _ _ hP0)).trans hP0
      have HP1 := Lib.hid ((hB7.cell (p := ⟨gP, 1, none⟩) (World.block_lt_of_cell? _ _ hP1)).trans hP1)
      have HRW : Hid (∀ i, i < 3 → ∀ b p, leastF (cst fs i) k = some (b, p) → ∃ g c, W7.cell? ⟨go, i, none⟩ = some (.slice (some ⟨g, 0, none⟩) p.length c) ∧ (p.length ≤ c ∧ c ≤ 9223372036854775807) ∧ Rd W7 (some ⟨g, 0, none⟩) p) := by
        intro i hi b p hsi
        obtain ⟨g, c, r1, r2, r3⟩ := hrw i hi b p hsi
        exact ⟨g, c, (hB7.cell (p := ⟨go, i, none⟩) (World.block_lt_of_cell? _ _ r1)).trans r1, r2, r3.below hB7⟩
      have R0 := Lib.hid (R0.out.below hB7)
      have R1 := Lib.hid (R1.out.below hB7)
      have R2 := Lib.hid (R2.out.below hB7)
      have HW7 := Lib.hid (HW.out.trans (hB7.mono HW.out.size))
      rw [hW7] at c0'
      clear hst hv hP0 hP1 hrw hB7
      go_wp2_with fail
      rw [← hW7]
      refine (same_true (xs := [b0, b1, b2]) (c := 3) (d := 3) rfl HN7.out (Nat.le_refl _) (by omega) rfl HV.out (Nat.le_refl _) (by omega)).mono ?_
      rintro e w8 ⟨rfl, hB1⟩
      have HP1 := Lib.hid ((hB1.cell (p := ⟨gP, 1, none⟩) (World.block_lt_of_cell? _ _ HP1.out)).trans HP1.out)
      obtain ⟨W9, hW9⟩ : ∃ W9 : World, W9 = w8.alloc (.cells #[.slice (some ⟨g0, 0, none⟩) k c0, .slice (some ⟨g1, 0, none⟩) k c1, .slice (some ⟨g2, 0, none⟩) k c2] 27) := ⟨_, rfl⟩
      have hB9 : Below w8.heap.size w8 W9 := by rw [hW9]; exact (Below.refl _ _).alloc (Nat.le_refl _) _
      have hB10 := hB1.trans (hB9.mono hB1.size)
      have hc1 := (hB9.cell (p := ⟨gP, 1, none⟩) (World.block_lt_of_cell? _ _ HP1.out)).trans HP1.out
      have HX := Lib.hid hW9
      have HRE : Hid (∀ i, i < 3 → RowEq W9 w8.heap.size go i) := by
        intro i hi
        have key : ∀ (i : Nat) (_ : i < 3) (b : Int) (p : List Int) (gg cc : Nat), leastF (cst fs i) k = some (b, p) → p.length = k → W9.cell? ⟨w8.heap.size, i, none⟩ = some (.slice (some ⟨gg, 0, none⟩) k cc) → Rd W7 (some ⟨gg, 0, none⟩) p → (k ≤ cc ∧ cc ≤ 9223372036854775807) → RowEq W9 w8.heap.size go i := by
          intro i hi b p gg cc hl hlen hcell hrd hcc
          obtain ⟨g', c', r1, r2, r3⟩ := HRW.out i hi b p hl
          exact ⟨p, _, _, cc, c', by rw [hlen]; exact hcell, (hB10.cell (p := ⟨go, i, none⟩) (World.block_lt_of_cell? _ _ r1)).trans r1, hrd.below hB10, r3.below hB10, by rw [hlen]; exact hcc, r2⟩
        have hcs : i = 0 ∨ i = 1 ∨ i = 2 := by omega
        rcases hcs with rfl | rfl | rfl
        · exact key 0 (by omega) b0 p0 g0 c0 S0.out I0.out (by rw [hW9]; exact World.cell?_alloc_at _ _ _ _ rfl) R0.out hb0
        · exact key 1 (by omega) b1 p1 g1 c1 S1.out I1.out (by rw [hW9]; exact World.cell?_alloc_at _ _ _ _ rfl) R1.out hb1
        · exact key 2 (by omega) b2 p2 g2 c2 S2.out I2.out (by rw [hW9]; exact World.cell?_alloc_at _ _ _ _ rfl) R2.out hb2
      have HW9 := Lib.hid (HW7.out.trans (hB10.mono HW7.out.size))
      rw [hW9] at hc1
      clear hB1 hB9 hB10 c0' hW9
      go_wp2_with fail
      rw [← HX.out]
      refine (slists_true w8.heap.size go 3 3 W9 HRE.out (by omega) (by omega)).mono ?_
      rintro e w10 ⟨rfl, hB1⟩
      have HW := Lib.hid (HW9.out.trans (hB1.mono HW9.out.size))
      clear hB1
      go_wp2_with fail
      refine (lives_calls _).mono ?_
      rintro e w12 ⟨rfl, hB1⟩
      have HW := Lib.hid (HW.out.trans (hB1.mono HW.out.size))
      clear hB1
      go_wp2_with fail
      go_ret
      exact ⟨rfl, HW.out⟩
end Go.Proofs.Ytlidnhmagleehaa
