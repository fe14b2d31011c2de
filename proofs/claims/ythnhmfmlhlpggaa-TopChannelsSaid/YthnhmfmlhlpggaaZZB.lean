/- What is proved: TopChannels' law. No condition beyond those in each statement. -/
import Derived.Test.YthnhmfmlhlpggaaZZA
import Derived.Test.YthnhmfmlhlpggaaZ
import Derived.Test.YthnhmfmlhlpggaaN
namespace Go.Proofs.Ythnhmfmlhlpggaa
open Go.RowKit
set_option maxRecDepth 100000

theorem permTo_iff {n : Nat} {xs : List Int} : ∀ k : Nat, k ≤ xs.length → (permTo n xs k = true ↔ (xs.take k).Nodup ∧ ∀ v ∈ xs.take k, 0 ≤ v ∧ v < n)
  | 0, _ => by simp [permTo]
  | k + 1, hk => by
    have hlt : k < xs.length := by omega
    have ih := permTo_iff (n := n) (xs := xs) k (by omega)
    rw [permTo_succ, Bool.and_eq_true, ih, List.take_succ_eq_append_getElem hlt, getD_lt (0 : Int) () hlt, List.nodup_append]
    unfold inB
    simp only [Bool.and_eq_true, decide_eq_true_eq, Bool.not_eq_true', List.any_eq_false, beq_iff_eq, List.mem_append, List.mem_singleton]
    constructor
    · rintro ⟨⟨h1, h2⟩, ⟨h3, h4⟩, h5⟩
      refine ⟨⟨h1, by simp, fun a ha b hb => by rw [hb]; exact h5 a ha⟩, fun v hv => ?_⟩
      rcases hv with hv | hv
      · exact h2 v hv
      · subst hv; omega
    · rintro ⟨⟨h1, _, h2⟩, h3⟩
      refine ⟨⟨h1, fun v hv => h3 v (.inl hv)⟩, ?_, fun a ha => h2 a ha _ rfl⟩
      have := h3 _ (.inr rfl)
      omega
theorem permB_iff {n : Nat} {xs : List Int} : permB n xs = true ↔ IsOrd n xs := by
  unfold permB
  rw [Bool.and_eq_true, permTo_iff xs.length (Nat.le_refl _), List.take_length, isOrd_iff, decide_eq_true_eq]
  constructor
  · rintro ⟨⟨h1, h2⟩, h3⟩
    exact ⟨by omega, h1, h2⟩
  · rintro ⟨h1, h2, h3⟩
    exact ⟨⟨h2, h3⟩, by omega⟩

/-- The spans of edges over the places of an order. -/
def spanO (o : List Int) (es : List (Int × Int)) : List (Int × Int) := spanF (fun x => (posF o).getD x.toNat 0) es
theorem cutO_calls (k : Nat) (hk : 1 ≤ k ∧ k ≤ 8) (B : Option Addr) (ne ce : Nat) (es : List (Int × Int)) (w : World) (hne : ne = es.length) (h24 : es.length ≤ 24) (hg : IsG k es) (hB : RdE w B es) (hle : ne ≤ ce) (hce : ce ≤ 9223372036854775807) :
    Calls Try.prog 17 #[.int .i64 k, .slice B ne ce] w fun e w' => ∃ p g c, e = .returned (.tuple #[.int .i64 (cutF (posF p) es), .slice (some ⟨g, 0, none⟩) k c, .int .i64 0]) ∧ IsOrd k p ∧ (∀ o, IsOrd k o → cutF (posF p) es ≤ cutF (posF o) es) ∧ Arr w' w.heap.size g c p ∧ Below w.heap.size w w' := by
  refine (Cut_calls k B ne ce es w hne hB hle hce).mono ?_
  rintro e w' ⟨hb, h⟩
  rw [check_ok hk (by omega) hg, if_neg (by simp), Int.toNat_natCast] at h
  obtain ⟨b, p, hl, hp, hbc, hmin⟩ := least_spec (costC es) k
  rw [hl] at h
  obtain ⟨g, c, rfl, ha⟩ := h
  refine ⟨p, g, c, ?_, hp, fun o ho => ?_, ha, hb⟩
  · rw [hbc, hp.len]; rfl
  · have := hmin o ho
    rw [hbc] at this
    exact this
theorem measO (k : Nat) (hk : 1 ≤ k ∧ k ≤ 8) (es : List (Int × Int)) (h24 : es.length ≤ 24) (hg : IsG k es) (o : List Int) (ho : IsOrd k o) : MeasR k es o = (bandF (posF o) es, cutF (posF o) es, totalF (posF o) es, 0) := by
  have hb : badO k es o = 0 := by
    unfold badO
    rw [check_ok hk (by omega) hg, if_neg (by simp), places_ok ho]; rfl
  unfold MeasR
  rw [if_neg (by rw [hb]; simp)]
theorem spanO_len (o : List Int) (es : List (Int × Int)) : (spanO o es).length = es.length := by unfold spanO spanF; rw [List.length_map]

def ChJ (W : World) (s : List (Int × Int)) (L : Nat) (v u : Value) (wr : World) : Prop := ∃ j : Nat, u = .int .i64 j ∧ j ≤ L ∧ v = .int .i64 (tailS s j) ∧ Hid (Below W.heap.size W wr)

set_option maxHeartbeats 16000000 in
theorem channelslaw (x0 : Int) (A : Option Addr) (m c : Nat) (ps : List (Int × Int)) (A2 : Option Addr) (m2 c2 : Nat) (bs : List Int) (w : World) (hx0 : 0 ≤ x0 ∧ x0 ≤ 255) (hm : m = ps.length) (hA : RdP w A ps) (hl : m ≤ c) (hc : c ≤ 9223372036854775807) (hps : ∀ p ∈ ps, (0 ≤ p.1 ∧ p.1 ≤ 255) ∧ (0 ≤ p.2 ∧ p.2 ≤ 255))
    (hm2 : m2 = bs.length) (hA2 : RdU w A2 bs) (hl2 : m2 ≤ c2) (hc2 : c2 ≤ 9223372036854775807) (hbs : ∀ b ∈ bs, 0 ≤ b ∧ b ≤ 255) :
    Calls Try.prog 5 #[.int .u8 x0, .slice A m c, .slice A2 m2 c2] w fun e w' => e = .returned (.bool true) ∧ Below w.heap.size w w' := by
  have CM := Lib.hid (graph_calls x0 A m c ps w hx0 hm hA hl hc hps)
  have CO := Lib.hid (fun (n : Nat) (hn : n ≤ 20) (W : World) (h : RdU W A2 bs) => nth_calls n hn A2 m2 c2 bs W hm2 h hl2 hc2 hbs)
  have HBU := Lib.hid hA2
  clear hm hA hps hm2 hA2 hbs
  go_enter Try.func5, Try.ntmps5
  go_wp2_with fail
  refine CM.out.mono ?_
  rintro e w1 ⟨k, es, g, cg, hk, h24, hg, rfl, ho, hB⟩
  have HG := Lib.hid hg
  have hbd := ho.bd
  have HE1 := Lib.hid ho.rd
  have HB1 := Lib.hid hB
  obtain ⟨ne, hne⟩ : ∃ ne, ne = es.length := ⟨_, rfl⟩
  rw [← hne] at h24 hbd ⊢
  have HNE := Lib.hid hne
  obtain ⟨hk1, hk8⟩ := hk
  have CC : Hid (∀ W, RdE W (some ⟨g, 0, none⟩) es → Calls Try.prog 17 #[.int .i64 k, .slice (some ⟨g, 0, none⟩) ne cg] W fun e w' => ∃ p g c, e = .returned (.tuple #[.int .i64 (cutF (posF p) es), .slice (some ⟨g, 0, none⟩) k c, .int .i64 0]) ∧ IsOrd k p ∧ (∀ o, IsOrd k o → cutF (posF p) es ≤ cutF (posF o) es) ∧ Arr w' W.heap.size g c p ∧ Below W.heap.size W w') := fun W h =>
    cutO_calls k ⟨hk1, hk8⟩ (some ⟨g, 0, none⟩) ne cg es W HNE.out (by have := HNE.out; omega) HG.out h hbd.1 hbd.2
  obtain ⟨hbd1, hbd2⟩ := hbd
  clear hg ho hB hne CM
  go_wp2_with fail
  refine (CC.out w1 HE1.out).mono ?_
  rintro e w2 ⟨p, gp, cp, rfl, hpo, hpl, hpa, hb2⟩
  have HPO := Lib.hid hpo
  have HPL := Lib.hid hpl
  have HPA := Lib.hid hpa
  have HB2 := Lib.hid (HB1.out.trans (hb2.mono HB1.out.size))
  have HE2 := Lib.hid (HE1.out.below hb2)
  clear hpo hpl hpa hb2
  go_wp2_with fail
  refine (CC.out w2 HE2.out).mono ?_
  rintro e w3 ⟨p3, gq, cq, rfl, hqo, hql, -, hb3⟩
  have HB3 := Lib.hid (HB2.out.trans (hb3.mono HB2.out.size))
  have HE3 := Lib.hid (HE2.out.below hb3)
  have HP3 := Lib.hid (HPA.out.below hb3)
  have HLS : Hid (cutF (posF p3) es = cutF (posF p) es) := by
    have h1 := hql p HPO.out
    have h2 := HPL.out p3 hqo
    show _ = _
    omega
  obtain ⟨lst, hlst⟩ : ∃ z, z = cutF (posF p3) es := ⟨_, rfl⟩
  rw [← hlst] at HLS ⊢
  obtain ⟨cu, hcu⟩ : ∃ z, z = cutF (posF p) es := ⟨_, rfl⟩
  rw [← hcu] at HLS HPL ⊢
  have HCU := Lib.hid hcu
  clear hcu
  have hpc : k ≤ cp ∧ cp ≤ 9223372036854775807 := by have := HPA.out.bd; have := HPO.out.len; omega
  obtain ⟨hpc1, hpc2⟩ := hpc
  have CPM := Lib.hid (perm_calls (some ⟨gp, 0, none⟩) k cp p k w3 HPO.out.len.symm HP3.out.rd hpc1 hpc2 (by omega))
  rw [permB_iff.2 HPO.out] at CPM
  clear hqo hql hb3 hlst CC
  go_wp2_with fail
  refine CPM.out.mono ?_
  rintro e w4 ⟨rfl, hb4⟩
  have HB4 := Lib.hid (HB3.out.trans (hb4.mono HB3.out.size))
  have HE4 := Lib.hid (HE3.out.below hb4)
  have HP4 := Lib.hid (HP3.out.below hb4)
  clear hb4 CPM
  go_wp2_with fail
  refine (lives_calls w4).mono ?_
  rintro e w5 ⟨rfl, hb5⟩
  have HB5 := Lib.hid (HB4.out.trans (hb5.mono HB4.out.size))
  have HE5 := Lib.hid (HE4.out.below hb5)
  have HP5 := Lib.hid (HP4.out.below hb5)
  have HU5 := Lib.hid (HBU.out.below HB5.out)
  clear hb5 HE1 HE2 HE3 HE4 HP3 HP4 HPA HB1 HB2 HB3 HB4
  go_wp2_with fail
  go_loopw [15] (fun v wr => ∃ r : Nat, v = .int .i64 r ∧ r ≤ 2 ∧ Hid (Below w5.heap.size w5 wr)) (fun v _ => 2 - (intOf v).toNat)
  case atStart => exact ⟨0, rfl, Nat.zero_le _, Below.refl _ _⟩
  case round =>
    obtain ⟨r, rfl, hr, HBR⟩ := hrel
    have hr3 : r = 0 ∨ r = 1 ∨ r = 2 := by omega
    rcases hr3 with rfl | rfl | rfl
    · obtain ⟨W6, hW6⟩ : ∃ q, q = wr := ⟨_, rfl⟩
      rw [← hW6] at HBR ⊢
      clear hW6
      have HR6 := Lib.hid (HP5.out.below HBR.out).rd
      have HIN : Hid ((∀ d : Int, d = cutF (posF p) es → decide (d < lst) = false) ∧ ∀ d : Int, d = cutF (posF p) es → (d != lst) = false) := by
        refine ⟨fun d hd => decide_eq_false ?_, fun d hd => bne_eq_false_iff_eq.2 ?_⟩
        · have := HLS.out; have := HCU.out; omega
        · have := HLS.out; have := HCU.out; omega
      have HXO := Lib.hid HPO.out
      have HE6 := Lib.hid (HE5.out.below HBR.out)
      have HM6 := Lib.hid (measO k ⟨hk1, hk8⟩ es (by have := HNE.out; omega) HG.out p HXO.out)
      have CSP := Lib.hid (spans_calls k (some ⟨g, 0, none⟩) ne cg es (some ⟨gp, 0, none⟩) k cp p W6 HNE.out HE6.out hbd1 hbd2 (by omega) HXO.out.len.symm HR6.out hpc1 hpc2 HXO.out hk8 HG.out)
      have HSO : Hid (SpOk (spanO p es)) := span_ok hk8 HXO.out HG.out (by have := HNE.out; omega)
      rw [span_pos HXO.out HG.out] at CSP
      have HDC : Hid (((depS (spanO p es) (spanO p es).length : Nat) : Int) = cutF (posF p) es) := cut_depth hk8 HXO.out HG.out (by have := HNE.out; omega)
      have HT0 : Hid (tailS (spanO p es) 0 = totalF (posF p) es) := tailS_all _ _
      have HSL : Hid ((spanO p es).length = ne) := by show _ = _; rw [spanO_len]; exact HNE.out.symm
      have CSP2 : Hid (Calls Try.prog 20 #[.slice (some ⟨g, 0, none⟩) ne cg, .slice (some ⟨gp, 0, none⟩) k cp] W6 fun e w' => ∃ v, e = .returned v ∧ OwP w' W6.heap.size v (spanO p es) ∧ Below W6.heap.size W6 w') := CSP.out
      clear CSP
      have CME : Hid (∀ W, RdE W (some ⟨g, 0, none⟩) es → Rd W (some ⟨gp, 0, none⟩) p → Calls Try.prog 21 #[.int .i64 k, .slice (some ⟨g, 0, none⟩) ne cg, .slice (some ⟨gp, 0, none⟩) k cp] W fun e w' => e = .returned (.tuple #[.int .i64 (bandF (posF p) es), .int .i64 (cutF (posF p) es), .int .i64 (totalF (posF p) es), .int .i64 0]) ∧ Below W.heap.size W w') := fun W h1 h2 => by
        have := measure_calls k (some ⟨g, 0, none⟩) ne cg es (some ⟨gp, 0, none⟩) k cp p W HNE.out h1 hbd1 hbd2 HXO.out.len.symm h2 hpc1 hpc2
        rw [HM6.out] at this
        exact this
      obtain ⟨dd, hdd⟩ : ∃ z, z = depS (spanO p es) (spanO p es).length := ⟨_, rfl⟩
      have HDD := Lib.hid hdd
      rw [← hdd] at HDC
      have HI1 := HIN.out.1 _ HDC.out
      have HI2 := HIN.out.2 _ HDC.out
      rw [← HDC.out, ← HT0.out] at CME
      generalize bandF (posF p) es = bw at CME
      obtain ⟨s, hs⟩ : ∃ s, s = spanO p es := ⟨_, rfl⟩
      rw [← hs] at CSP2 HSO HSL CME HDD
      clear hs hdd HDC HT0 HM6
      go_wp2_with fail
      refine CSP2.out.mono ?_
      rintro e W7 ⟨v, rfl, hop, hb7⟩
      obtain ⟨P, pc, rfl, hp1, hp2, hrs⟩ := hop.sl
      have HS7 := Lib.hid hrs
      have HE7 := Lib.hid (HE6.out.below hb7)
      have HR7 := Lib.hid (HR6.out.below hb7)
      have HB7 := Lib.hid (HBR.out.trans (hb7.mono HBR.out.size))
      obtain ⟨L, hL⟩ : ∃ L, L = s.length := ⟨_, rfl⟩
      have HL := Lib.hid hL
      rw [← hL] at hp1 ⊢
      have hL24 : L ≤ 24 := by have := HSL.out; omega
      clear hop hb7 hrs hL
      go_wp2_with fail
      refine (CME.out W7 HE7.out HR7.out).mono ?_
      rintro e W8 ⟨rfl, hb8⟩
      have HS8 := Lib.hid (HS7.out.below hb8)
      have HB8 := Lib.hid (HB7.out.trans (hb8.mono HB7.out.size))
      clear hb8
      go_wp2_with fail
      refine (depth_calls P L pc s W8 HL.out HS8.out hp1 hp2 HSO.out).mono ?_
      rintro e W9 ⟨rfl, hb9⟩
      have HS9 := Lib.hid (HS8.out.below hb9)
      have HB9 := Lib.hid (HB8.out.trans (hb9.mono HB8.out.size))
      rw [show depS s L = dd by rw [HDD.out, HL.out]]
      clear hb9
      go_wp2_with fail
      refine (best_calls P L pc s W9 HL.out HS9.out hp1 hp2 HSO.out (by omega)).mono ?_
      rintro e W10 ⟨gt, cols, rfl, hbk, hcr, hb10⟩
      have HLW := Lib.hid (best_law HSO.out hbk)
      have HCL : Hid (L = cols.length) := by show _ = _; rw [HL.out]; exact hbk.1.symm
      have HCR := Lib.hid hcr
      have HS10 := Lib.hid (HS9.out.below hb10)
      have HB10 := Lib.hid (HB9.out.trans (hb10.mono HB9.out.size))
      clear hbk hcr hb10
      go_wp2_with fail
      go_loopw [20, 26] (ChJ W10 s L) (fun _ v _ => L - (intOf v).toNat)
      case atStart => exact ⟨0, rfl, Nat.zero_le _, rfl, Below.refl _ _⟩
      case round =>
        obtain ⟨j, rfl, hj, rfl, HBJ⟩ := hrel
        by_cases hlt : j < L
        · have hjs : j < s.length := by have := HL.out; omega
          have hjc : j < cols.length := by have := HCL.out; omega
          obtain ⟨b, o, rfl, hb, d1, d2⟩ := (HS10.out.below HBJ.out).at j hjs
          obtain ⟨b2, o2, e, hb2', d3⟩ := (HCR.out.below HBJ.out).at j hjc
          cases e
          rw [Nat.zero_add] at d3
          have hsj := HSO.out.2 _ (List.getElem_mem hjs)
          have htl := tailS_step hjs
          have htb := tailS_bd HSO.out j
          have htb2 := tailS_bd HSO.out (j + 1)
          have hcb := HLW.out.2 j hjs
          rw [getD_lt 0 () hjc] at hcb
          obtain ⟨q1, hq1⟩ : ∃ z, z = s[j].1 := ⟨_, rfl⟩
          obtain ⟨q2, hq2⟩ : ∃ z, z = s[j].2 := ⟨_, rfl⟩
          obtain ⟨x, hx⟩ : ∃ z, z = cols[j] := ⟨_, rfl⟩
          rw [← hq1] at d1 hsj htl
          rw [← hq2] at d2 hsj htl
          rw [← hx] at d3 hcb
          obtain ⟨T, hT⟩ : ∃ z, z = tailS s j := ⟨_, rfl⟩
          rw [← hT] at htl htb ⊢
          have HTL : Hid (T - (q2 - q1) = tailS s (j + 1)) := by show _ = _; omega
          have hdl : dd ≤ 40 := by rw [HDD.out]; have := depS_le s s.length; have := HL.out; omega
          obtain ⟨hsj1, hsj2, hsj3⟩ := hsj
          obtain ⟨htb0, htb1⟩ := htb
          have hin : inB x 0 ((dd : Int) - 1) = true := by
            unfold inB
            rw [HDD.out, Bool.and_eq_true, decide_eq_true_eq, decide_eq_true_eq]
            omega
          have CI : Hid (∀ W, Calls Try.prog 15 #[.int .i64 x, .int .i64 0, .int .i64 ((dd : Int) - 1)] W fun e w' => e = .returned (.bool true) ∧ W = w') := fun W => by
            have := in_calls x 0 ((dd : Int) - 1) W
            rw [hin] at this
            exact this
          have j0 : (0 : Int) ≤ (j : Int) := by omega
          have j1 : (j : Int) < (L : Int) := by omega
          have u1 : IntKind.i64.wrap (q2 - q1) = q2 - q1 := IntWalk.i64_in _ (by omega)
          have u2 : IntKind.i64.wrap (T - (q2 - q1)) = T - (q2 - q1) := IntWalk.i64_in _ (by omega)
          clear hq1 hq2 hx hT htl hcb hin hjs hjc hb hb2'
          go_wp2_with fail
          go_quiet (fail)
          obtain ⟨W11, hW11⟩ : ∃ q, q = wr.drewN nq := ⟨_, rfl⟩
          have d3' : W11.cell? ⟨gt, j, none⟩ = some (.int .i64 x) := by rw [hW11]; exact d3
          have HB11 : Hid (Below W10.heap.size W10 W11) := by rw [hW11]; exact below_drewN HBJ.out _
          rw [← hW11]
          clear hW11 d1 d2 d3
          go_wp2_with fail
          refine (CI.out _).mono ?_
          rintro e w' ⟨rfl, rfl⟩
          go_wp2_with fail
          go_roundw
          case rel => exact ⟨j + 1, by go_num, by omega, int_eq HTL.out, HB11.out⟩
          case measure => simp [intOf]; omega
        · have hjl : j = s.length := by have := HL.out; omega
          have hz : tailS s j = 0 := by rw [hjl]; exact tailS_end s
          rw [hz]
          have HS11 := Lib.hid (HS10.out.below HBJ.out)
          have Hhpc11 := Lib.hid (HCR.out.below HBJ.out)
          have HB11 := Lib.hid (HB10.out.trans (HBJ.out.mono HB10.out.size))
          have CPR := Lib.hid (properS_calls P L pc s (some ⟨gt, 0, none⟩) L cols wr HL.out HS11.out hp1 hp2 HSO.out HCL.out Hhpc11.out (Nat.le_refl _) (by omega) (fun z hz => by
            obtain ⟨t, ht, rfl⟩ := List.getElem_of_mem hz
            have := (HLW.out.2 t (by have := HL.out; have := HCL.out; omega)).1
            rw [getD_lt 0 () ht] at this
            exact this) HLW.out.1)
          clear hz hjl
          go_wp2_with fail
          refine CPR.out.mono ?_
          rintro e w12 ⟨rfl, hb12⟩
          have HB12 := Lib.hid (HB11.out.trans (hb12.mono HB11.out.size))
          clear hb12
          go_wp2_with fail
          go_roundw
          case rel => exact ⟨1, by go_num, by omega, HB12.out⟩
          case measure => simp [intOf]
    · obtain ⟨W5, hW5⟩ : ∃ q, q = wr := ⟨_, rfl⟩
      rw [← hW5] at HBR ⊢
      clear hW5
      have CN := Lib.hid (CO.out k (by omega) W5 (HU5.out.below HBR.out))
      clear HP5
      go_wp2_with fail
      refine CN.out.mono ?_
      rintro e W6 ⟨o, go, co, hoo, rfl, hoa, hob⟩
      have HXO := Lib.hid hoo
      have HR6 := Lib.hid hoa.rd
      have hoc : k ≤ co ∧ co ≤ 9223372036854775807 := by have := hoa.bd; have := hoo.len; omega
      obtain ⟨hoc1, hoc2⟩ := hoc
      have HBR0 := Lib.hid (HBR.out.trans (hob.mono HBR.out.size))
      clear HBR
      have HBR : Hid (Below w5.heap.size w5 W6) := HBR0.out
      have HIN : Hid (∀ d : Int, d = cutF (posF o) es → decide (d < lst) = false) := by
        intro d hd
        refine decide_eq_false ?_
        have := HPL.out o HXO.out; have := HLS.out; omega
      clear HBR0 hoo hoa hob CN
      have HE6 := Lib.hid (HE5.out.below HBR.out)
      have HM6 := Lib.hid (measO k ⟨hk1, hk8⟩ es (by have := HNE.out; omega) HG.out o HXO.out)
      have CSP := Lib.hid (spans_calls k (some ⟨g, 0, none⟩) ne cg es (some ⟨go, 0, none⟩) k co o W6 HNE.out HE6.out hbd1 hbd2 (by omega) HXO.out.len.symm HR6.out hoc1 hoc2 HXO.out hk8 HG.out)
      have HSO : Hid (SpOk (spanO o es)) := span_ok hk8 HXO.out HG.out (by have := HNE.out; omega)
      rw [span_pos HXO.out HG.out] at CSP
      have HDC : Hid (((depS (spanO o es) (spanO o es).length : Nat) : Int) = cutF (posF o) es) := cut_depth hk8 HXO.out HG.out (by have := HNE.out; omega)
      have HT0 : Hid (tailS (spanO o es) 0 = totalF (posF o) es) := tailS_all _ _
      have HSL : Hid ((spanO o es).length = ne) := by show _ = _; rw [spanO_len]; exact HNE.out.symm
      have CSP2 : Hid (Calls Try.prog 20 #[.slice (some ⟨g, 0, none⟩) ne cg, .slice (some ⟨go, 0, none⟩) k co] W6 fun e w' => ∃ v, e = .returned v ∧ OwP w' W6.heap.size v (spanO o es) ∧ Below W6.heap.size W6 w') := CSP.out
      clear CSP
      have CME : Hid (∀ W, RdE W (some ⟨g, 0, none⟩) es → Rd W (some ⟨go, 0, none⟩) o → Calls Try.prog 21 #[.int .i64 k, .slice (some ⟨g, 0, none⟩) ne cg, .slice (some ⟨go, 0, none⟩) k co] W fun e w' => e = .returned (.tuple #[.int .i64 (bandF (posF o) es), .int .i64 (cutF (posF o) es), .int .i64 (totalF (posF o) es), .int .i64 0]) ∧ Below W.heap.size W w') := fun W h1 h2 => by
        have := measure_calls k (some ⟨g, 0, none⟩) ne cg es (some ⟨go, 0, none⟩) k co o W HNE.out h1 hbd1 hbd2 HXO.out.len.symm h2 hoc1 hoc2
        rw [HM6.out] at this
        exact this
      obtain ⟨dd, hdd⟩ : ∃ z, z = depS (spanO o es) (spanO o es).length := ⟨_, rfl⟩
      have HDD := Lib.hid hdd
      rw [← hdd] at HDC
      have HI1 := HIN.out _ HDC.out
      rw [← HDC.out, ← HT0.out] at CME
      generalize bandF (posF o) es = bw at CME
      obtain ⟨s, hs⟩ : ∃ s, s = spanO o es := ⟨_, rfl⟩
      rw [← hs] at CSP2 HSO HSL CME HDD
      clear hs hdd HDC HT0 HM6
      go_wp2_with fail
      refine CSP2.out.mono ?_
      rintro e W7 ⟨v, rfl, hop, hb7⟩
      obtain ⟨P, pc, rfl, hp1, hp2, hrs⟩ := hop.sl
      have HS7 := Lib.hid hrs
      have HE7 := Lib.hid (HE6.out.below hb7)
      have HR7 := Lib.hid (HR6.out.below hb7)
      have HB7 := Lib.hid (HBR.out.trans (hb7.mono HBR.out.size))
      obtain ⟨L, hL⟩ : ∃ L, L = s.length := ⟨_, rfl⟩
      have HL := Lib.hid hL
      rw [← hL] at hp1 ⊢
      have hL24 : L ≤ 24 := by have := HSL.out; omega
      clear hop hb7 hrs hL
      go_wp2_with fail
      refine (CME.out W7 HE7.out HR7.out).mono ?_
      rintro e W8 ⟨rfl, hb8⟩
      have HS8 := Lib.hid (HS7.out.below hb8)
      have HB8 := Lib.hid (HB7.out.trans (hb8.mono HB7.out.size))
      clear hb8
      go_wp2_with fail
      refine (depth_calls P L pc s W8 HL.out HS8.out hp1 hp2 HSO.out).mono ?_
      rintro e W9 ⟨rfl, hb9⟩
      have HS9 := Lib.hid (HS8.out.below hb9)
      have HB9 := Lib.hid (HB8.out.trans (hb9.mono HB8.out.size))
      rw [show depS s L = dd by rw [HDD.out, HL.out]]
      clear hb9
      go_wp2_with fail
      refine (best_calls P L pc s W9 HL.out HS9.out hp1 hp2 HSO.out (by omega)).mono ?_
      rintro e W10 ⟨gt, cols, rfl, hbk, hcr, hb10⟩
      have HLW := Lib.hid (best_law HSO.out hbk)
      have HCL : Hid (L = cols.length) := by show _ = _; rw [HL.out]; exact hbk.1.symm
      have HCR := Lib.hid hcr
      have HS10 := Lib.hid (HS9.out.below hb10)
      have HB10 := Lib.hid (HB9.out.trans (hb10.mono HB9.out.size))
      clear hbk hcr hb10
      go_wp2_with fail
      go_loopw [20, 26] (ChJ W10 s L) (fun _ v _ => L - (intOf v).toNat)
      case atStart => exact ⟨0, rfl, Nat.zero_le _, rfl, Below.refl _ _⟩
      case round =>
        obtain ⟨j, rfl, hj, rfl, HBJ⟩ := hrel
        by_cases hlt : j < L
        · have hjs : j < s.length := by have := HL.out; omega
          have hjc : j < cols.length := by have := HCL.out; omega
          obtain ⟨b, o, rfl, hb, d1, d2⟩ := (HS10.out.below HBJ.out).at j hjs
          obtain ⟨b2, o2, e, hb2', d3⟩ := (HCR.out.below HBJ.out).at j hjc
          cases e
          rw [Nat.zero_add] at d3
          have hsj := HSO.out.2 _ (List.getElem_mem hjs)
          have htl := tailS_step hjs
          have htb := tailS_bd HSO.out j
          have htb2 := tailS_bd HSO.out (j + 1)
          have hcb := HLW.out.2 j hjs
          rw [getD_lt 0 () hjc] at hcb
          obtain ⟨q1, hq1⟩ : ∃ z, z = s[j].1 := ⟨_, rfl⟩
          obtain ⟨q2, hq2⟩ : ∃ z, z = s[j].2 := ⟨_, rfl⟩
          obtain ⟨x, hx⟩ : ∃ z, z = cols[j] := ⟨_, rfl⟩
          rw [← hq1] at d1 hsj htl
          rw [← hq2] at d2 hsj htl
          rw [← hx] at d3 hcb
          obtain ⟨T, hT⟩ : ∃ z, z = tailS s j := ⟨_, rfl⟩
          rw [← hT] at htl htb ⊢
          have HTL : Hid (T - (q2 - q1) = tailS s (j + 1)) := by show _ = _; omega
          have hdl : dd ≤ 40 := by rw [HDD.out]; have := depS_le s s.length; have := HL.out; omega
          obtain ⟨hsj1, hsj2, hsj3⟩ := hsj
          obtain ⟨htb0, htb1⟩ := htb
          have hin : inB x 0 ((dd : Int) - 1) = true := by
            unfold inB
            rw [HDD.out, Bool.and_eq_true, decide_eq_true_eq, decide_eq_true_eq]
            omega
          have CI : Hid (∀ W, Calls Try.prog 15 #[.int .i64 x, .int .i64 0, .int .i64 ((dd : Int) - 1)] W fun e w' => e = .returned (.bool true) ∧ W = w') := fun W => by
            have := in_calls x 0 ((dd : Int) - 1) W
            rw [hin] at this
            exact this
          have j0 : (0 : Int) ≤ (j : Int) := by omega
          have j1 : (j : Int) < (L : Int) := by omega
          have u1 : IntKind.i64.wrap (q2 - q1) = q2 - q1 := IntWalk.i64_in _ (by omega)
          have u2 : IntKind.i64.wrap (T - (q2 - q1)) = T - (q2 - q1) := IntWalk.i64_in _ (by omega)
          clear hq1 hq2 hx hT htl hcb hin hjs hjc hb hb2'
          go_wp2_with fail
          go_quiet (fail)
          obtain ⟨W11, hW11⟩ : ∃ q, q = wr.drewN nq := ⟨_, rfl⟩
          have d3' : W11.cell? ⟨gt, j, none⟩ = some (.int .i64 x) := by rw [hW11]; exact d3
          have HB11 : Hid (Below W10.heap.size W10 W11) := by rw [hW11]; exact below_drewN HBJ.out _
          rw [← hW11]
          clear hW11 d1 d2 d3
          go_wp2_with fail
          refine (CI.out _).mono ?_
          rintro e w' ⟨rfl, rfl⟩
          go_wp2_with fail
          go_roundw
          case rel => exact ⟨j + 1, by go_num, by omega, int_eq HTL.out, HB11.out⟩
          case measure => simp [intOf]; omega
        · have hjl : j = s.length := by have := HL.out; omega
          have hz : tailS s j = 0 := by rw [hjl]; exact tailS_end s
          rw [hz]
          have HS11 := Lib.hid (HS10.out.below HBJ.out)
          have Hhoc11 := Lib.hid (HCR.out.below HBJ.out)
          have HB11 := Lib.hid (HB10.out.trans (HBJ.out.mono HB10.out.size))
          have CPR := Lib.hid (properS_calls P L pc s (some ⟨gt, 0, none⟩) L cols wr HL.out HS11.out hp1 hp2 HSO.out HCL.out Hhoc11.out (Nat.le_refl _) (by omega) (fun z hz => by
            obtain ⟨t, ht, rfl⟩ := List.getElem_of_mem hz
            have := (HLW.out.2 t (by have := HL.out; have := HCL.out; omega)).1
            rw [getD_lt 0 () ht] at this
            exact this) HLW.out.1)
          clear hz hjl
          go_wp2_with fail
          refine CPR.out.mono ?_
          rintro e w12 ⟨rfl, hb12⟩
          have HB12 := Lib.hid (HB11.out.trans (hb12.mono HB11.out.size))
          clear hb12
          go_wp2_with fail
          go_roundw
          case rel => exact ⟨2, by go_num, by omega, HB12.out⟩
          case measure => simp [intOf]
    · go_wp2_with fail
      go_ret
      exact ⟨rfl, HB5.out.trans (HBR.out.mono HB5.out.size)⟩
end Go.Proofs.Ythnhmfmlhlpggaa
