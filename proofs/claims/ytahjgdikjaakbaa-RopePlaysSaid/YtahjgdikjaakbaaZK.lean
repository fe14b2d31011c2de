/- What is proved: Clone. No condition beyond those in each statement. -/
import Derived.Test.YtahjgdikjaakbaaZJ
import Derived.Test.YtahjgdikjaakbaaPd
import Derived.Maps.RangeWalk
namespace Go.Proofs.Ytahjgdikjaakbaa
open Go.RowKit

/-- The second loop of Clone. -/
def ClR (w : World) (t : TS) (s : LS) (N r : Nat) (c2 c3 : Value) (wr : World) : Prop := ∃ left cnt s', FlR wr s.M r s.n s.F left cnt ∧ Par0 w t N c2 c3 (fun i j => if left i j = true then [] else t.fl i j) s' wr ∧ (∀ g, fp N s' g → g ≠ r)
/-- The third. -/
def CmR (w : World) (t : TS) (N : Nat) (c2 c3 : Value) (G : Nat → Nat → List Msg) (i j : Nat) (f : Fr) (u : Value) (wr : World) : Prop := ∃ (k : Nat) (s' : LS), u = .int .i64 k ∧ k ≤ (t.fl i j).length ∧ Par0 w t N c2 c3 (updF G i j ((t.fl i j).take k)) s' wr ∧ (∀ g, f.Y g → ¬ fp N s' g) ∧ Kp f wr
theorem updF_id (G : Nat → Nat → List Msg) (i j : Nat) (l : List Msg) (h : G i j = l) : updF G i j l = G := by
  funext a b
  unfold updF
  split
  · rename_i e; rw [e.1, e.2, h]
  · rfl
theorem updF_updF (G : Nat → Nat → List Msg) (i j : Nat) (l l' : List Msg) : updF (updF G i j l) i j l' = updF G i j l' := by
  funext a b
  unfold updF
  split <;> rfl
/-- The first loop of Clone. -/
def CkI (w : World) (T2 : Nat) (s : LS) (R2 rc2 : Nat) (v : Value) (wr : World) : Prop := ∃ (k : Nat) (K Kc : Nat → Nat), v = .int .i64 k ∧ k ≤ s.n ∧ Low wr T2 { putR s R2 rc2 with K := K, Kc := Kc } ∧ (∀ a, a < k → w.heap.size ≤ K a) ∧ Below w.heap.size w wr
set_option maxRecDepth 100000 in
set_option maxHeartbeats 16000000 in
theorem clone_calls {w : World} {T : Nat} {s : LS} {t : TS} (U : Up w T s t) (I : Inv t) (hfl : ∀ a b, a < s.n → b < s.n → (s.ms a b).length ≤ 90000) :
    Calls Try.prog 31 #[.pointer (some ⟨T, 0, none⟩)] w fun e w' => ∃ T2 s2, e = .returned (.pointer (some ⟨T2, 0, none⟩)) ∧ Up w' T2 s2 t ∧ (∀ g, fp T2 s2 g → w.heap.size ≤ g) ∧ Below w.heap.size w w' := by
  have h := U.low
  have C1 := Lib.hid (made_calls h)
  obtain ⟨hc2, hc3⟩ := up_cells U
  obtain ⟨p1, l1, k1, e1⟩ := hc2.form
  obtain ⟨p2, l2, k2, e2⟩ := hc3.form
  have hcells := h.cells
  rw [e1, e2] at hcells
  obtain ⟨c0, c1, c2, c3, c4, c5⟩ := hcells
  obtain ⟨N, hN⟩ : ∃ N, N = w.heap.size := ⟨_, rfl⟩
  obtain ⟨w3, hw3⟩ : ∃ w3, w3 = w.alloc (.cells #[.slice (some ⟨s.R, 0, none⟩) s.n s.rc, .int .i64 s.holder, .slice p1 l1 k1, .slice p2 l2 k2, .map (some s.M), .int .i64 s.sent] 64) := ⟨_, rfl⟩
  have hb3 : Below w.heap.size w w3 := by rw [hw3]; exact (Below.refl _ _).alloc (Nat.le_refl _) _
  have hL3 : Low w3 N s := by
    have := low_copy h
    unfold towerC at this
    rw [e1, e2] at this
    rw [hw3, hN]; exact this
  have d0 : (w.alloc (.cells #[.slice (some ⟨s.R, 0, none⟩) s.n s.rc, .int .i64 s.holder, .slice p1 l1 k1, .slice p2 l2 k2, .map (some s.M), .int .i64 s.sent] 64)).cell? ⟨T, 0, none⟩ = some (.slice (some ⟨s.R, 0, none⟩) s.n s.rc) := by
    rw [← hw3]; exact (h.below hb3).cells.1
  have CR := Lib.hid (cloneR_calls (h.below hb3))
  have HU := Lib.hid U
  have HI := Lib.hid I
  have HFL := Lib.hid hfl
  have HL3 := Lib.hid hL3
  have HW3 := Lib.hid hw3
  have HB3 := Lib.hid hb3
  have HN := Lib.hid hN
  have HC2 := Lib.hid hc2
  have HC3 := Lib.hid hc3
  have HE := Lib.hid (And.intro e1 e2)
  clear U I hfl hL3 hw3 hb3 hN h hc2 hc3 e1 e2
  go_enter Try.func31, Try.ntmps31
  go_wp2_with fail
  refine C1.out.mono ?_
  rintro e w1 ⟨rfl, rfl⟩
  go_wp2_with fail
  have hw3 := HW3.out
  have hN := HN.out
  rw [← hw3, ← hN]
  clear hw3 hN d0
  refine CR.out.mono ?_
  rintro e w4 ⟨R2, rc2, rfl, hR, hrc, hc, hb4⟩
  obtain ⟨w5, hw5⟩ : ∃ w5, w5 = w4.setCell ⟨N, 0, none⟩ (.slice (some ⟨R2, 0, none⟩) s.n rc2) := ⟨_, rfl⟩
  have hL5 : Low w5 N (putR s R2 rc2) := by rw [hw5]; exact low_R HL3.out hb4 hR hrc hc
  have hbw4 : Below w.heap.size w w4 := HB3.out.trans (hb4.mono HB3.out.size)
  have hb5 : Below w.heap.size w w5 := by rw [hw5]; exact hbw4.setCell (p := ⟨N, 0, none⟩) (by show w.heap.size ≤ N; have := HN.out; omega) _
  have HR2 : Hid (w.heap.size ≤ R2) := by show w.heap.size ≤ R2; have := HB3.out.size; omega
  have HL5 := Lib.hid hL5
  have HB5 := Lib.hid hb5
  have HW5 := Lib.hid hw5
  have d0 : w4.cell? ⟨N, 0, none⟩ = some (.slice (some ⟨s.R, 0, none⟩) s.n s.rc) := (HL3.out.below hb4).cells.1
  have f0 : w4.frozen? ⟨N, 0, none⟩ = false := (HL3.out.below hb4).fT 0
  have hn6 := HL3.out.hn
  clear hR hrc hc hb4 hL5 hbw4 hb5 hw5 CR
  go_wp2_with fail
  have hw5 := HW5.out
  rw [← hw5]
  clear hw5 d0 f0
  go_loopw [26] (fun v wr => CkI w N s R2 rc2 v wr) (fun v _ => s.n - (intOf v).toNat)
  case atStart => exact ⟨0, s.K, s.Kc, rfl, Nat.zero_le _, HL5.out, fun a ha => absurd ha (Nat.not_lt_zero a), HB5.out⟩
  case round =>
    obtain ⟨k, K, Kc, rfl, hk, hlow, hKs, hbel⟩ := hrel
    have HLO := Lib.hid hlow
    have HKS := Lib.hid hKs
    have HBE := Lib.hid hbel
    by_cases hlt : k < s.n
    · have g0 : wr.cell? ⟨N, 0, none⟩ = some (.slice (some ⟨R2, 0, none⟩) s.n rc2) := hlow.cells.1
      have g1 : wr.cell? ⟨R2, k * 2, none⟩ = some (.slice (some ⟨K k, 0, none⟩) s.n (Kc k)) := (hlow.cR hlt).1
      have gf : wr.frozen? ⟨R2, k * 2, none⟩ = false := hlow.fR (k * 2)
      have hNl : N < wr.heap.size := World.block_lt_of_cell? _ _ g0
      have hRl : R2 < wr.heap.size := World.block_lt_of_cell? _ _ g1
      have CK : Hid (∀ w1, Below wr.heap.size wr w1 → Calls Try.prog 43 #[.slice (some ⟨K k, 0, none⟩) s.n (Kc k)] w1 fun e w' => ∃ K2 kc2, e = .returned (.slice (some ⟨K2, 0, none⟩) s.n kc2) ∧ w1.heap.size ≤ K2 ∧ Row w' 3 K2 0 kc2 (intsV (s.known.getD k [])) ∧ Below w1.heap.size w1 w') := by
        intro w1 hb1
        have hl := (hlow.below hb1)
        have hlen : (s.known.getD k []).length = s.n := hlow.lki k hlt
        refine (cloneI_calls (w := w1) (v := .slice (some ⟨K k, 0, none⟩) s.n (Kc k)) (xs := s.known.getD k []) (.inr ⟨K k, 0, Kc k, by rw [intsV_len, hlen], hl.hK k hlt⟩) (by rw [hlen]; omega)).mono ?_
        rintro e w' ⟨v', rfl, ho, hb⟩
        rcases ho.2 with ⟨_, e0⟩ | ⟨g, cap, cur, rfl, hbg, hg, h1, h2, h3, h4⟩
        · omega
        · rw [hlen] at h1 h4 ⊢
          refine ⟨g, cap, rfl, hbg, ⟨cur, hg, by rw [intsV_len, hlen]; exact h1, h2, by omega, ?_⟩, hb⟩
          rw [intsV_len, hlen, List.drop_zero]
          rw [Nat.mul_one] at h4
          exact h4
      have z1 : (0 : Int) ≤ (k : Int) ∧ (k : Int) < s.n := by omega
      clear hlow hKs hbel
      go_wp2_with fail
      go_region_law ((go_simp; go_at_call 43; refine (CK.out _ (by repeat (first | with_reducible exact Below.refl _ _ | with_reducible refine Below.drew ?_))).mono ?_; rintro e wA ⟨K2, kc2, rfl, hK2, hrow, hbA⟩; have hbA1 : Below wr.heap.size wr wA := (by first | exact hbA | exact Below.ofDrew hbA); have g0A := (hbA1.cell (p := ⟨N, 0, none⟩) hNl).trans g0; have g1A := (hbA1.cell (p := ⟨R2, k * 2, none⟩) hRl).trans g1; have gfA := (World.frozen?_of_block (a := ⟨R2, k * 2, none⟩) (hbA1.block R2 hRl)).trans gf))
      all_goals
        have hK2' : wr.heap.size ≤ K2 := hK2
        have hL6 : Low (wA.setCell ⟨R2, k * 2, none⟩ (.slice (some ⟨K2, 0, none⟩) s.n kc2)) N (putK { putR s R2 rc2 with K := K, Kc := Kc } k K2 kc2) := low_K HLO.out hlt hbA1 hK2' hrow
        have hB6 : Below w.heap.size w (wA.setCell ⟨R2, k * 2, none⟩ (.slice (some ⟨K2, 0, none⟩) s.n kc2)) := (HBE.out.trans (hbA1.mono HBE.out.size)).setCell (p := ⟨R2, k * 2, none⟩) HR2.out _
        have HL6 := Lib.hid hL6
        have HB6 := Lib.hid hB6
        have HK2 := Lib.hid hK2'
        clear hL6 hB6 hK2' hK2 hrow hbA hbA1 g0A g1A gfA g0 g1 gf CK
        go_wp2_with fail
        go_roundw
        case rel => exact ⟨k + 1, _, _, by go_num, by omega, HL6.out, fun a ha => by
          show w.heap.size ≤ if a = k then K2 else K a
          have h1 := HBE.out.size
          have h2 := HK2.out
          split
          · omega
          · exact HKS.out a (by omega), HB6.out⟩
        case measure => simp [intOf]; omega
    · have hkn : k = s.n := by omega
      subst hkn
      have d2 : wr.cell? ⟨T, 2, none⟩ = some (.slice p1 l1 k1) := by rw [← HE.out.1]; exact (HU.out.low.below hbel).cells.2.2.1
      have d3 : wr.cell? ⟨T, 3, none⟩ = some (.slice p2 l2 k2) := by rw [← HE.out.2]; exact (HU.out.low.below hbel).cells.2.2.2.1
      have CT : Hid (Calls Try.prog 49 #[.agg #[.slice p1 l1 k1, .slice p2 l2 k2]] wr fun e w' => ∃ a1 n1 c1 a2 n2 c2, e = .returned (.agg #[.slice a1 n1 c1, .slice a2 n2 c2]) ∧ Below wr.heap.size wr w' ∧ Sl1 w' 3 (.slice a1 n1 c1) (intsV (svC t)) ∧ Sl1 w' 3 (.slice a2 n2 c2) (intsV (quC t)) ∧ (∀ g, (Value.slice a1 n1 c1).ownBlock = some g → wr.heap.size ≤ g) ∧ (∀ g, (Value.slice a2 n2 c2).ownBlock = some g → wr.heap.size ≤ g) ∧ (∀ g, (Value.slice a1 n1 c1).ownBlock = some g → (Value.slice a2 n2 c2).ownBlock ≠ some g) ∧ (t.holder = -1 → Value.slice a1 n1 c1 = nilV ∧ Value.slice a2 n2 c2 = nilV)) := by
        by_cases hh : t.holder = -1
        · obtain ⟨q1, q2⟩ := HU.out.hno hh
          have q1 := HE.out.1.symm.trans q1
          have q2 := HE.out.2.symm.trans q2
          rw [q1, q2]
          refine (tokclone_nil wr).mono ?_
          rintro e w' ⟨rfl, hb⟩
          refine ⟨_, _, _, _, _, _, rfl, hb, ?_, ?_, (fun g h => by cases h), (fun g h => by cases h), (fun g h => by cases h), fun _ => ⟨rfl, rfl⟩⟩
          · unfold svC; rw [if_pos hh]; exact .inl ⟨rfl, rfl⟩
          · unfold quC; rw [if_pos hh]; exact .inl ⟨rfl, rfl⟩
        have hs1 := HC2.out
        have hs2 := HC3.out
        rw [HE.out.1] at hs1
        rw [HE.out.2] at hs2
        have hI := HI.out
        have hn := hI.hn
        have hl1 : (svC t).length ≤ 1000 := by unfold svC; split; simp; rw [hI.ls]; omega
        have hl2 : (quC t).length ≤ 1000 := by
          have := nodup_len t.n t.queue hI.qn (fun x hx => by obtain ⟨a, e, ha, _⟩ := hI.qm x hx; exact ⟨a, e, ha⟩)
          unfold quC; split; simp; omega
        refine (tokclone_calls (w := wr) (hs1.same fun g hg => hbel.block g (hs1.lt g hg)) (hs2.same fun g hg => hbel.block g (hs2.lt g hg)) hl1 hl2).mono ?_
        rintro e w' ⟨a, b, rfl, oa, ob, oab, hb⟩
        obtain ⟨s1, s2, a1, n1, c1, rfl⟩ := oa.sl1
        obtain ⟨s3, s4, a2, n2, c2, rfl⟩ := ob.sl1
        exact ⟨_, _, _, _, _, _, rfl, hb, s1, s3, fun g hg => (s2 g hg).1, fun g hg => (s4 g hg).1, oab, fun h => absurd h hh⟩
      clear hlow hKs hbel c0 c1 c2 c3 c4 c5
      go_wp2_with fail
      refine CT.out.mono ?_
      rintro e w6 ⟨a1, n1, c1, a2, n2, c2, rfl, hb6, hs1, hs2, ha1, ha2, hab, hnil⟩
      have hL6 := HLO.out.below hb6
      obtain ⟨_, _, g2, g3, _, _⟩ := hL6.cells
      have gf := hL6.fT
      have HLC : Hid (Low ((w6.setCell ⟨N, 2, none⟩ (.slice a1 n1 c1)).setCell ⟨N, 3, none⟩ (.slice a2 n2 c2)) N (putC { putR s R2 rc2 with K := K, Kc := Kc } (.slice a1 n1 c1) (.slice a2 n2 c2) (svC t) (quC t))) := low_C HLO.out hb6 hs1 hs2 ha1 ha2 hab
      obtain ⟨w7, hw7⟩ : ∃ w7, w7 = (w6.setCell ⟨N, 2, none⟩ (.slice a1 n1 c1)).setCell ⟨N, 3, none⟩ (.slice a2 n2 c2) := ⟨_, rfl⟩
      have hb7 : Below w.heap.size w w7 := by
        have h0 := HBE.out.trans (hb6.mono HBE.out.size)
        have hN := HN.out
        rw [hw7]
        exact (h0.setCell (p := ⟨N, 2, none⟩) (by show w.heap.size ≤ N; omega) _).setCell (p := ⟨N, 3, none⟩) (by show w.heap.size ≤ N; omega) _
      have hlc := HLC.out
      rw [← hw7] at hlc
      obtain ⟨sC, hsC⟩ : ∃ sC, sC = putC { putR s R2 rc2 with K := K, Kc := Kc } (.slice a1 n1 c1) (.slice a2 n2 c2) (svC t) (quC t) := ⟨_, rfl⟩
      rw [← hsC] at hlc
      have hl8 := low_M hlc
      obtain ⟨M2, hM2⟩ : ∃ M2, M2 = w7.heap.size := ⟨_, rfl⟩
      obtain ⟨w8, hw8⟩ : ∃ w8, w8 = (w7.alloc (.map #[] 0)).setCell ⟨N, 4, none⟩ (.map (some w7.heap.size)) := ⟨_, rfl⟩
      have hba7 : Below w7.heap.size w7 (w7.alloc (.map #[] 0)) := (Below.refl _ _).alloc (Nat.le_refl _) _
      have d4 : (w7.alloc (.map #[] 0)).cell? ⟨N, 4, none⟩ = some (.map (some s.M)) := by
        have := (hlc.below hba7).cells.2.2.2.2.1
        rw [hsC] at this
        exact this
      have f4 : (w7.alloc (.map #[] 0)).frozen? ⟨N, 4, none⟩ = false := (hlc.below hba7).fT 4
      have hb8 : Below w.heap.size w w8 := by
        rw [hw8]
        exact (hb7.trans (hba7.mono hb7.size)).setCell (p := ⟨N, 4, none⟩) (by show w.heap.size ≤ N; have := HN.out; omega) _
      rw [← hw8, ← hM2] at hl8
      rw [← hM2] at hw8
      obtain ⟨left, cnt, w9, hrun, hFR, hb9, hz⟩ := fl_range (HU.out.low.below hb8).hM
      have e4 : ((w7.alloc (.map #[] 0)).setCell ⟨N, 4, none⟩ (.map (some M2))).cell? ⟨T, 4, none⟩ = some (.map (some s.M)) := by rw [← hw8]; exact (HU.out.low.below hb8).cells.2.2.2.2.1
      have HSC := Lib.hid hsC
      have HHA := Lib.hid (And.intro ha1 (And.intro ha2 hab))
      have HNIL := Lib.hid hnil
      have HB7S : Hid (w.heap.size ≤ w7.heap.size) := hb7.size
      have HL8 := Lib.hid hl8
      have HB8 := Lib.hid hb8
      have HW7 := Lib.hid hw7
      have HW8 := Lib.hid hw8
      have HM2 := Lib.hid hM2
      have HRUN := Lib.hid hrun
      have HFR := Lib.hid hFR
      have HB9 := Lib.hid hb9
      have HZ := Lib.hid hz
      have mm := mkMap62 w7
      rw [← hM2] at mm
      clear hnil hw7 hb7 hlc hl8 hw8 hb8 hrun hFR hb9 hz hsC ha1 ha2 hab hL6 hs1 hs2 hb6 HLC hba7 hM2
      go_wp2_with fail
      have hw7 := HW7.out
      rw [← hw7]
      clear hw7 g2 g3 gf
      rw [mm]
      simp only [Result.andThen_ok]
      go_wp2_with (at_range; (have hw8 := HW8.out; rw [← hw8]; clear hw8); refine wpList_rng rfl _ 62 rfl _ rfl HRUN.out ?_)
      have HR8 : Hid (∃ r, r = w8.heap.size ∧ w.heap.size ≤ r) := ⟨_, rfl, HB8.out.size⟩
      obtain ⟨r, hr, hrw⟩ := HR8.out
      have hfr := HFR.out
      rw [← hr] at hfr ⊢
      have HREL : Hid (ClR w t s N r (.slice a1 n1 c1) (.slice a2 n2 c2) w9) := by
        have hu := HU.out
        have hsC := HSC.out
        obtain ⟨ha1, ha2, _⟩ := HHA.out
        have hN := HN.out
        refine ⟨left, cnt, putM sC M2, hfr, ?_, ?_⟩
        · have hfps : ∀ g, fp N (putM sC M2) g → w.heap.size ≤ g := by
            rintro g ⟨y, hy⟩
            rw [hsC] at hy
            cases y with
            | T => cases hy; omega
            | R => cases hy; exact HR2.out
            | M => have hg : M2 = g := Option.some.inj hy; have h1 := HM2.out; have h2 := HB7S.out; omega
            | S => have h1 := ha1 g hy; have := HBE.out.size; omega
            | Q => have h1 := ha2 g hy; have := HBE.out.size; omega
            | K a =>
              have hy : (if a < s.n then some (K a) else none) = some g := hy
              split at hy
              · rename_i ha; cases hy; exact HKS.out a ha
              · cases hy
            | F a b =>
              have hy : (if a < s.n ∧ b < s.n then none else none) = some g := hy
              split at hy <;> cases hy
          have hP : Par0 w t N (.slice a1 n1 c1) (.slice a2 n2 c2) (fun _ _ => []) (putM sC M2) w8 := by
            refine ⟨HL8.out, ?_, ?_, ?_, ?_, ?_, ?_, ?_, fun _ _ _ _ => rfl, ?_, ?_, hfps, HB8.out⟩
            · rw [hsC]; exact hu.en
            · rw [hsC]; exact hu.em
            · rw [hsC]; exact hu.ek
            · rw [hsC]; exact hu.eh
            · rw [hsC]; exact hu.ee
            · rw [hsC]; rfl
            · rw [hsC]; rfl
            · intro h
              have hh : t.holder ≠ -1 := by
                rcases h with h | ⟨_, _, _, _, h⟩
                · exact h
                · cases h
              rw [hsC]
              show svC t = t.served ∧ quC t = t.queue
              unfold svC quC
              rw [if_neg hh, if_neg hh]
              exact ⟨rfl, rfl⟩
            · intro _; rw [hsC]; exact ⟨rfl, rfl⟩
          refine (hP.below HB9.out).congr fun a b ha hb => ?_
          by_cases e : left a b = true
          · rw [if_pos e]
          · rw [if_neg e]
            have h1 := HZ.out a b (by rw [hu.en]; exact ha) (by rw [hu.en]; exact hb) (by simpa using e)
            have h2 := hu.low.hF a b (by rw [hu.en]; exact ha) (by rw [hu.en]; exact hb)
            rw [h1] at h2
            have h3 : s.ms a b = [] := by
              rcases h2 with ⟨_, h4⟩ | ⟨g, off, cap, h4, _⟩
              · exact h4
              · cases h4
            rw [hu.ms a b ha hb] at h3
            exact (List.map_eq_nil_iff.1 h3).symm
        · rintro g ⟨y, hy⟩
          have := HL8.out.lt y g hy
          omega
      clear hfr hr
      go_frame
      go_loopw [57] (fun _ wr => ClR w t s N r (.slice a1 n1 c1) (.slice a2 n2 c2) wr) (fun _ wr => flLeft wr s.M r)
      case atStart => exact HREL.out
      case round =>
        obtain ⟨lf, ct, s', hR, P, hnr⟩ := hrel
        have HP := Lib.hid P
        have HNR := Lib.hid hnr
        rcases fl_next hR 0 with ⟨hc0, hl0, hrun⟩ | ⟨i, j, wx, cnt', hi, hj, hlt, hrun, hR2, hcn, hg2, hsz2, hen⟩
        · have HR := Lib.hid hrun
          have HEND : Hid (Par0 w t N (.slice a1 n1 c1) (.slice a2 n2 c2) t.fl s' wr) := P.congr fun a b _ _ => by rw [if_neg (by rw [hl0 a b]; simp)]
          clear hR P hnr hc0 hl0 hrun HREL HRUN
          go_wp2_with (at_next; refine wpList_nxt rfl _ rfl _ rfl HR.out ?_)
          go_ret
          exact ⟨N, s', rfl, par_end HEND.out HI.out HNIL.out, HEND.out.fps, HEND.out.bel⟩
        · have hi' : i < t.n := by rw [← HU.out.en]; exact hi
          have hj' : j < t.n := by rw [← HU.out.en]; exact hj
          have hgb : Below w.heap.size wr wx := (Below.refl _ wr).grown hg2 P.bel.size (fun k hk => by cases hk; exact hrw)
          have hPx : Par0 w t N (.slice a1 n1 c1) (.slice a2 n2 c2) (fun a b => if lf a b = true then [] else t.fl a b) s' wx := P.same (fun g hg => by obtain ⟨y, hy⟩ := hg; exact hg2.block g (P.low.lt y g hy) (fun e => hnr g ⟨y, hy⟩ (Option.some.inj e))) (P.bel.trans hgb)
          obtain ⟨PA, PC, hV, hcell⟩ := (HU.out.low.hF i j hi hj).parts
          rw [hV] at hrun hen
          unfold keyV at hrun hen
          obtain ⟨L, hL⟩ : ∃ L, L = (s.ms i j).length := ⟨_, rfl⟩
          rw [← hL] at hrun hen
          have hms := HU.out.ms i j hi' hj'
          have hLf : L = (t.fl i j).length := by rw [hL, hms, List.length_map]
          have hL9 : L ≤ 90000 := by rw [hL]; exact HFL.out i j hi hj
          obtain ⟨B5, hB5⟩ : ∃ B5, B5 = wx.heap.size := ⟨_, rfl⟩
          obtain ⟨wI, hwI⟩ : ∃ wI, wI = wx.alloc (.cells #[.int .i64 i, .int .i64 j] 68) := ⟨_, rfl⟩
          have hbI : Below wx.heap.size wx wI := by rw [hwI]; exact (Below.refl _ _).alloc (Nat.le_refl _) _
          have hPI := hPx.below hbI
          have hy0 : wI.cell? ⟨B5, 0, none⟩ = some (.int .i64 i) := by rw [hwI, hB5]; exact World.cell?_alloc_at _ _ _ _ rfl
          have hy1 : wI.cell? ⟨B5, 1, none⟩ = some (.int .i64 j) := by rw [hwI, hB5]; exact World.cell?_alloc_at _ _ _ _ rfl
          have hRI := hR2.below hbI
          obtain ⟨f, hfw, hfY⟩ : ∃ f : Fr, f.w = wI ∧ ∀ g, f.Y g ↔ g < wI.heap.size ∧ ¬ fp N s' g := ⟨⟨wI, fun g => g < wI.heap.size ∧ ¬ fp N s' g, fun g h => h.1⟩, rfl, fun g => Iff.rfl⟩
          have hlt5 : wx.heap.size < wI.heap.size := by rw [hwI]; simp
          have hY5 : f.Y B5 := (hfY B5).2 ⟨by omega, fun ⟨y, hy⟩ => by have := hPx.low.lt y B5 hy; omega⟩
          have hYM : f.Y s.M := (hfY _).2 ⟨by have := hRI.lt.1; omega, fun h => by have h1 := hPI.fps _ h; have h2 : s.M < w.heap.size := HU.out.low.lt .M s.M rfl; omega⟩
          have hYr : f.Y r := (hfY _).2 ⟨hRI.lt.2, fun h => HNR.out r h rfl⟩
          have HYS := Lib.hid (And.intro hY5 (And.intro hYM hYr))
          have HST : Hid (CmR w t N (.slice a1 n1 c1) (.slice a2 n2 c2) (fun a b => if lf a b = true then [] else t.fl a b) i j f (.int .i64 0) wI) := by
            refine ⟨0, s', rfl, Nat.zero_le _, ?_, fun g hg => ((hfY g).1 hg).2, by rw [← hfw]; exact ⟨rfl, rfl, rfl, Nat.le_refl _, fun _ _ => rfl⟩⟩
            rw [List.take_zero, updF_id _ _ _ _ (if_pos hlt)]
            exact hPI
          have HGG : Hid (∀ a b, a < t.n → b < t.n → (if lf a b = true then [] else t.fl a b) = [] ∨ (if lf a b = true then [] else t.fl a b) = t.fl a b) := by
            intro a b _ _
            split
            · exact .inl rfl
            · exact .inr rfl
          have HCELL : Hid (∀ k (hk : k < (t.fl i j).length), ∃ g off, PA = some ⟨g, off, none⟩ ∧ g < w.heap.size ∧ w.cell? ⟨g, off + k, none⟩ = some (enc s.tsv s.tqv (t.fl i j)[k])) := by
            intro k hk
            obtain ⟨g, off, e, h1, h2⟩ := hcell k (by omega)
            refine ⟨g, off, e, h1, ?_⟩
            rw [h2]
            congr 1
            simp only [hms, List.getElem_map]
          have HMEA : Hid (cnt' < flLeft wr s.M r) := by rw [hR.left_eq]; exact hcn
          have HR := Lib.hid hrun
          have HEN := Lib.hid hen
          have HRI := Lib.hid hRI
          have HY01 := Lib.hid (And.intro hy0 hy1)
          have HFW := Lib.hid hfw
          have HLF := Lib.hid hLf
          have HWI := Lib.hid hwI
          have HB5 := Lib.hid hB5
          have HIJ := Lib.hid (And.intro hi' hj')
          clear hR P hnr hrun hR2 hcn hg2 hsz2 hen hgb hPx hV hcell hL hms hLf hbI hPI hy0 hy1 hRI hfY hlt5 hY5 hYM hYr hlt hi hj hi' hj' hfw hwI hB5 HREL HRUN
          have hen := HEN.out
          go_wp2_with (at_next; refine wpList_nxt rfl _ rfl _ rfl HR.out ?_)
          have hwI := HWI.out
          have hB5 := HB5.out
          rw [← hwI, ← hB5]
          clear hwI hB5 hen
          go_loopw [64] (fun u wr => CmR w t N (.slice a1 n1 c1) (.slice a2 n2 c2) (fun a b => if lf a b = true then [] else t.fl a b) i j f u wr) (fun u _ => L - (intOf u).toNat)
          case atStart => exact HST.out
          case round =>
            obtain ⟨k, sx, rfl, hk, Q, hYx, hKx⟩ := hrel
            have HQX := Lib.hid Q
            have HYX := Lib.hid hYx
            have HKX := Lib.hid hKx
            rw [← HLF.out] at hk
            by_cases hkL : k < L
            · have hkf : k < (t.fl i j).length := by rw [← HLF.out]; exact hkL
              obtain ⟨g0, o0, rfl, hgl, hc0⟩ := HCELL.out k hkf
              have cm1 := (Q.bel.cell (p := ⟨g0, o0 + k, none⟩) hgl).trans hc0
              have z1 : (0 : Int) ≤ (k : Int) ∧ (k : Int) < L := by omega
              have hN4 : wr.cell? ⟨N, 4, none⟩ = some (.map (some sx.M)) := Q.low.cells.2.2.2.2.1
              have hNl : N < wr.heap.size := World.block_lt_of_cell? _ _ hN4
              have hB0 : wr.cell? ⟨B5, 0, none⟩ = some (.int .i64 i) := (World.cell?_of_block (a := ⟨B5, 0, none⟩) (hKx.block B5 HYS.out.1)).trans (by rw [HFW.out]; exact HY01.out.1)
              have hB1 : wr.cell? ⟨B5, 1, none⟩ = some (.int .i64 j) := (World.cell?_of_block (a := ⟨B5, 1, none⟩) (hKx.block B5 HYS.out.1)).trans (by rw [HFW.out]; exact HY01.out.2)
              have hBl : B5 < wr.heap.size := World.block_lt_of_cell? _ _ hB0
              have HTK : Hid ((t.fl i j).take (k + 1) = (t.fl i j).take k ++ [(t.fl i j)[k]]) := List.take_succ_eq_append_getElem hkf
              have HNO := Lib.hid (fun hm => par_same_no HI.out HIJ.out.1 HIJ.out.2 hkf hm _ HGG.out)
              obtain ⟨m, hm⟩ : ∃ m, m = (t.fl i j)[k] := ⟨_, rfl⟩
              rw [← hm] at cm1 HTK HNO
              clear hc0 hgl hm hYx hKx
              cases m with
              | req no =>
                replace cm1 : wr.cell? ⟨g0, o0 + k, none⟩ = some (.iface 88 (.agg #[.int .i64 no])) := cm1
                have T88 := ta88no
                obtain ⟨wb, hwb⟩ : ∃ wb, wb = wr.alloc (.cells #[.slice none 0 0, .slice none 0 0] 61) := ⟨_, rfl⟩
                have hQb : Par0 w t N (.slice a1 n1 c1) (.slice a2 n2 c2) (updF (fun a b => if lf a b = true then [] else t.fl a b) i j ((t.fl i j).take k)) sx wb := by rw [hwb]; exact Q.below ((Below.refl _ _).alloc (Nat.le_refl _) _)
                have HQB := Lib.hid hQb
                have HWB := Lib.hid hwb
                have HKB : Hid (Kp f wb) := by rw [hwb]; exact HKX.out.below ((Below.refl _ _).alloc (Nat.le_refl _) _)
                clear Q hQb hwb HKX HQX
                have HKX := HKB
                go_wp2_with fail
                have hwb := HWB.out
                rw [← hwb]
                clear hwb
                obtain ⟨ZB, hZB0⟩ : ∃ z, z = wr.heap.size + 1 := ⟨_, rfl⟩
                have hZB : ZB = wb.heap.size := by rw [hZB0, HWB.out]; simp
                rw [← hZB0]
                clear hZB0
                obtain ⟨Wm, hWm⟩ : ∃ Wm, Wm = wb.alloc (.cells #[.iface 88 (.agg #[.int .i64 no])] 70) := ⟨_, rfl⟩
                rw [← hWm]
                have hbm : Below wb.heap.size wb Wm := by rw [hWm]; exact (Below.refl _ _).alloc (Nat.le_refl _) _
                have hQ := HQB.out.below hbm
                have hcz : Wm.cell? ⟨ZB, 0, none⟩ = some (.iface 88 (.agg #[.int .i64 no])) := by rw [hWm, hZB]; exact World.cell?_alloc_at _ _ _ _ rfl
                have hzl : ZB < Wm.heap.size := by rw [hWm, hZB]; simp
                have hin := hQ.low.hn
                have hii : i < sx.n := by rw [hQ.en]; exact HIJ.out.1
                have hjj : j < sx.n := by rw [hQ.en]; exact HIJ.out.2
                have hFM : ∀ g, (sx.F i j).ownBlock = some g → g ≠ sx.M := fun g hg => hQ.low.ne (x := .F i j) (y := .M) ((if_pos (And.intro hii hjj)).trans hg) rfl (by simp)
                have hFl : ∀ g, (sx.F i j).ownBlock = some g → g < Wm.heap.size := fun g hg => hQ.low.lt (.F i j) g ((if_pos (And.intro hii hjj)).trans hg)
                have hZF : ∀ g, (sx.F i j).ownBlock = some g → g < ZB := fun g hg => by rw [hZB]; exact (HQB.out).low.lt (.F i j) g ((if_pos (And.intro hii hjj)).trans hg)
                have hZM : sx.M < ZB := by rw [hZB]; exact (HQB.out).low.lt .M sx.M rfl
                have hmsl : (sx.ms i j).length ≤ 100000 := by rw [hQ.ms i j HIJ.out.1 HIJ.out.2, updF_same, List.length_map, List.length_take]; omega
                have HQ := Lib.hid hQ
                have HWM := Lib.hid hWm
                have HBM := Lib.hid hbm
                have HFS := Lib.hid (And.intro hFM (And.intro hFl (And.intro hZF hZM)))
                have HCZ := Lib.hid (And.intro hcz hzl)
                clear hZB hWm hbm hcz hFM hFl hZF hZM hzl
                refine upon_entry (F := sx.F) (n := sx.n) (fun a b ha hb => keysOk6 a b (by omega) (by omega)) hQ.low.hM hii hjj ?_
                intro st w5 hp5 hg5
                obtain ⟨v6, w6, hrun, hs6, hg6, hb6⟩ := msg_push (W := w5) (v := sx.F i j) (xs := sx.ms i j) (g := ZB) (c := 1) (x := .iface 88 (.agg #[.int .i64 no])) ((hQ.low.hF i j hii hjj).grown hg5 (fun b hb e => HFS.out.1 b hb (Option.some.inj e))) hmsl ((hg5.cell HCZ.out.1 (fun e => by have h9 := HFS.out.2.2.2; have h8 := Option.some.inj e; have h7 : ZB = sx.M := h8; omega))) rfl
                have hp6 : FlP w6 sx.M sx.n sx.F i j st := hp5.grown hg6 (fun e => HFS.out.1 sx.M e.symm rfl)
                have HRUN := Lib.hid hrun
                have HS6 := Lib.hid (And.intro hs6 (And.intro hg6 hb6))
                have HG5 := Lib.hid hg5
                have HP5 := Lib.hid hp5
                clear hQ hrun hs6 hg6 hb6 hg5 hp5
                go_wp2_with (at_builtin; refine wpList_app rfl (.tmp 80) (.tmp 82) 67 67 rfl rfl _ _ rfl rfl HRUN.out ?_)
                refine upon_store (F := sx.F) (n := sx.n) (i := i) (j := j) hp6 hii hjj ?_
                intro w7 hm7 hg7
                obtain ⟨hs6, hg6, g6, hg6o, hg6f⟩ := HS6.out
                have hFS := HFS.out
                have hoff : Off (fun k => k = sx.M ∨ (sx.F i j).ownBlock = some k) Wm w7 := (((Off.refl _ Wm).grown HG5.out (fun k hk => by cases hk; exact .inl (.inl rfl))).grown hg6 (fun k hk => .inl (.inr hk))).grown hg7 (fun k hk => by cases hk; exact .inl (.inl rfl))
                have hwml : Wm.heap.size ≤ w5.heap.size := HG5.out.size
                have hs7 : Sl1 w7 70 v6 (sx.ms i j ++ [.iface 88 (.agg #[.int .i64 no])]) := hs6.grown hg7 (fun b hb e => by
                  have e := Option.some.inj e
                  rw [hg6o] at hb
                  cases hb
                  rcases hg6f with h | h
                  · exact hFS.1 _ h e
                  · have := HP5.out.lt; omega)
                have hr3 : ∀ g, v6.ownBlock = some g → (sx.F i j).ownBlock = some g ∨ Wm.heap.size ≤ g := fun g hg => by
                  rw [hg6o] at hg
                  cases hg
                  exact hg6f.imp id (fun h => by omega)
                obtain ⟨hP7, hmv⟩ := par_push (m := .req no) HQ.out HIJ.out.1 HIJ.out.2 (fun h => by cases h) hm7 hs7 hr3 hoff
                have hY7 : ∀ g, f.Y g → ¬ fp N (putF sx i j v6 (sx.ms i j ++ [enc sx.tsv sx.tqv (.req no)]) sx.sent) g := fun g hg h => by
                  rcases hmv.sub g h with h1 | h1
                  · exact HYX.out g hg h1
                  · have h2 := f.lt g hg
                    have h3 := HKX.out.size
                    have h4 := HBM.out.size
                    omega
                have hk7 : Kp f w7 := (HKX.out.below HBM.out).off hmv.off (fun g hg h => HYX.out g hg h)
                rw [updF_updF, updF_same, ← HTK.out] at hP7
                have HP7 := Lib.hid hP7
                have HY7 := Lib.hid hY7
                have HK7 := Lib.hid hk7
                clear hP7 hmv hY7 hk7 hs7 hr3 hoff hwml hs6 hg6 hg6o hg6f hFS hp6 hm7 hg7
                go_wp2_with fail
                go_roundw
                case rel => exact ⟨k + 1, _, by go_num, hkf, HP7.out, HY7.out, HK7.out⟩
                case measure => simp [intOf]; omega
              | tok =>
                obtain ⟨p3, l3, k3, ht3⟩ := HU.out.low.hS.form
                obtain ⟨p4, l4, k4, ht4⟩ := HU.out.low.hQ.form
                replace cm1 : wr.cell? ⟨g0, o0 + k, none⟩ = some (.iface 61 (.agg #[s.tsv, s.tqv])) := cm1
                rw [ht3, ht4] at cm1
                have T61 := ta61
                obtain ⟨hh, hno⟩ := HNO.out rfl
                obtain ⟨wY, hwY⟩ : ∃ wY, wY = wr.alloc (.cells #[.slice p3 l3 k3, .slice p4 l4 k4] 61) := ⟨_, rfl⟩
                have hbY : Below wr.heap.size wr wY := by rw [hwY]; exact (Below.refl _ _).alloc (Nat.le_refl _) _
                have CT2 : Hid (Calls Try.prog 49 #[.agg #[.slice p3 l3 k3, .slice p4 l4 k4]] wY fun e w' => ∃ a3 n3 c3 a4 n4 c4, e = .returned (.agg #[.slice a3 n3 c3, .slice a4 n4 c4]) ∧ Below wY.heap.size wY w' ∧ Sl1 w' 3 (.slice a3 n3 c3) (intsV t.served) ∧ Sl1 w' 3 (.slice a4 n4 c4) (intsV t.queue) ∧ (∀ g, (Value.slice a3 n3 c3).ownBlock = some g → wr.heap.size ≤ g) ∧ (∀ g, (Value.slice a4 n4 c4).ownBlock = some g → wr.heap.size ≤ g) ∧ (∀ g, (Value.slice a3 n3 c3).ownBlock = some g → (Value.slice a4 n4 c4).ownBlock ≠ some g)) := by
                  have hI := HI.out
                  have hnn := hI.hn
                  have hbb := Q.bel.trans (hbY.mono Q.bel.size)
                  have hs1 := HU.out.low.hS
                  have hs2 := HU.out.low.hQ
                  rw [ht3, HU.out.es] at hs1
                  rw [ht4, HU.out.eq] at hs2
                  have hl2 := nodup_len t.n t.queue hI.qn (fun x hx => by obtain ⟨a, e, ha, _⟩ := hI.qm x hx; exact ⟨a, e, ha⟩)
                  refine (tokclone_calls (w := wY) (hs1.same fun g hg => hbb.block g (hs1.lt g hg)) (hs2.same fun g hg => hbb.block g (hs2.lt g hg)) (by rw [hI.ls]; omega) (by omega)).mono ?_
                  rintro e w' ⟨a, b, rfl, oa, ob, oab, hb⟩
                  obtain ⟨s1, s2, a1, n1, c1, rfl⟩ := oa.sl1
                  obtain ⟨s3, s4, a2, n2, c2, rfl⟩ := ob.sl1
                  have := hbY.size
                  exact ⟨_, _, _, _, _, _, rfl, hb, s1, s3, fun g hg => by have := (s2 g hg).1; omega, fun g hg => by have := (s4 g hg).1; omega, oab⟩
                have HWY := Lib.hid hwY
                have HBY := Lib.hid hbY
                have HNH := Lib.hid (And.intro hh hno)
                clear Q hh hno hwY hbY ht3 ht4
                go_wp2_with fail
                have hwY := HWY.out
                rw [← hwY]
                clear hwY
                refine CT2.out.mono ?_
                rintro e wT ⟨a3, n3, c3, a4, n4, c4, rfl, hbT, hs3, hs4, ha3, ha4, hab4⟩
                have hbT2 : Below wr.heap.size wr wT := HBY.out.trans (hbT.mono HBY.out.size)
                obtain ⟨hPf, hmf⟩ := par_found HQX.out HNH.out.1 HNH.out.2 hbT2 hs3 hs4 ha3 ha4 hab4
                have hT4 := (hbT2.cell (p := ⟨N, 4, none⟩) hNl).trans hN4
                have hT0 := (hbT2.cell (p := ⟨B5, 0, none⟩) hBl).trans hB0
                have hT1 := (hbT2.cell (p := ⟨B5, 1, none⟩) hBl).trans hB1
                have hYf : ∀ g, f.Y g → ¬ fp N (putTk sx (.slice a3 n3 c3) (.slice a4 n4 c4) t.served t.queue) g := fun g hg h => by
                  rcases hmf.sub g h with h1 | h1
                  · exact HYX.out g hg h1
                  · have h2 := f.lt g hg
                    have h3 := HKX.out.size
                    omega
                obtain ⟨sy, hsy⟩ : ∃ sy, sy = putTk sx (.slice a3 n3 c3) (.slice a4 n4 c4) t.served t.queue := ⟨_, rfl⟩
                have HSY : Hid ((sy.served = t.served ∧ sy.queue = t.queue) ∧ enc sy.tsv sy.tqv .tok = .iface 61 (.agg #[.slice a3 n3 c3, .slice a4 n4 c4])) := by rw [hsy]; exact ⟨⟨rfl, rfl⟩, rfl⟩
                have hMy : sy.M = sx.M := by rw [hsy]; rfl
                rw [← hMy] at hT4
                rw [← hsy] at hPf hYf
                have HQB := Lib.hid hPf
                have HYY := Lib.hid hYf
                have HKT := Lib.hid (HKX.out.below hbT2)
                clear hPf hmf hYf hbT hbT2 hs3 hs4 ha3 ha4 hab4 hsy hMy CT2 hN4 hB0 hB1 cm1 hNl hBl
                go_wp2_with fail
                obtain ⟨ZB, hZB0⟩ : ∃ z, z = wT.heap.size := ⟨_, rfl⟩
                have hZB : ZB = wT.heap.size := hZB0
                rw [← hZB0]
                clear hZB0
                obtain ⟨Wm, hWm⟩ : ∃ Wm, Wm = wT.alloc (.cells #[.iface 61 (.agg #[.slice a3 n3 c3, .slice a4 n4 c4])] 70) := ⟨_, rfl⟩
                rw [← hWm]
                have hbm : Below wT.heap.size wT Wm := by rw [hWm]; exact (Below.refl _ _).alloc (Nat.le_refl _) _
                have hQ := HQB.out.below hbm
                have hcz : Wm.cell? ⟨ZB, 0, none⟩ = some (.iface 61 (.agg #[.slice a3 n3 c3, .slice a4 n4 c4])) := by rw [hWm, hZB]; exact World.cell?_alloc_at _ _ _ _ rfl
                have hzl : ZB < Wm.heap.size := by rw [hWm, hZB]; simp
                have hin := hQ.low.hn
                have hii : i < sy.n := by rw [hQ.en]; exact HIJ.out.1
                have hjj : j < sy.n := by rw [hQ.en]; exact HIJ.out.2
                have hFM : ∀ g, (sy.F i j).ownBlock = some g → g ≠ sy.M := fun g hg => hQ.low.ne (x := .F i j) (y := .M) ((if_pos (And.intro hii hjj)).trans hg) rfl (by simp)
                have hFl : ∀ g, (sy.F i j).ownBlock = some g → g < Wm.heap.size := fun g hg => hQ.low.lt (.F i j) g ((if_pos (And.intro hii hjj)).trans hg)
                have hZF : ∀ g, (sy.F i j).ownBlock = some g → g < ZB := fun g hg => by rw [hZB]; exact (HQB.out).low.lt (.F i j) g ((if_pos (And.intro hii hjj)).trans hg)
                have hZM : sy.M < ZB := by rw [hZB]; exact (HQB.out).low.lt .M sy.M rfl
                have hmsl : (sy.ms i j).length ≤ 100000 := by rw [hQ.ms i j HIJ.out.1 HIJ.out.2, updF_same, List.length_map, List.length_take]; omega
                have HQ := Lib.hid hQ
                have HWM := Lib.hid hWm
                have HBM := Lib.hid hbm
                have HFS := Lib.hid (And.intro hFM (And.intro hFl (And.intro hZF hZM)))
                have HCZ := Lib.hid (And.intro hcz hzl)
                clear hZB hWm hbm hcz hFM hFl hZF hZM hzl
                refine upon_entry (F := sy.F) (n := sy.n) (fun a b ha hb => keysOk6 a b (by omega) (by omega)) hQ.low.hM hii hjj ?_
                intro st w5 hp5 hg5
                obtain ⟨v6, w6, hrun, hs6, hg6, hb6⟩ := msg_push (W := w5) (v := sy.F i j) (xs := sy.ms i j) (g := ZB) (c := 1) (x := .iface 61 (.agg #[.slice a3 n3 c3, .slice a4 n4 c4])) ((hQ.low.hF i j hii hjj).grown hg5 (fun b hb e => HFS.out.1 b hb (Option.some.inj e))) hmsl ((hg5.cell HCZ.out.1 (fun e => by have h9 := HFS.out.2.2.2; have h8 := Option.some.inj e; have h7 : ZB = sy.M := h8; omega))) rfl
                have hp6 : FlP w6 sy.M sy.n sy.F i j st := hp5.grown hg6 (fun e => HFS.out.1 sy.M e.symm rfl)
                have HRUN := Lib.hid hrun
                have HS6 := Lib.hid (And.intro hs6 (And.intro hg6 hb6))
                have HG5 := Lib.hid hg5
                have HP5 := Lib.hid hp5
                clear hQ hrun hs6 hg6 hb6 hg5 hp5
                go_wp2_with (at_builtin; refine wpList_app rfl (.tmp 80) (.tmp 82) 67 67 rfl rfl _ _ rfl rfl HRUN.out ?_)
                refine upon_store (F := sy.F) (n := sy.n) (i := i) (j := j) hp6 hii hjj ?_
                intro w7 hm7 hg7
                obtain ⟨hs6, hg6, g6, hg6o, hg6f⟩ := HS6.out
                have hFS := HFS.out
                have hoff : Off (fun k => k = sy.M ∨ (sy.F i j).ownBlock = some k) Wm w7 := (((Off.refl _ Wm).grown HG5.out (fun k hk => by cases hk; exact .inl (.inl rfl))).grown hg6 (fun k hk => .inl (.inr hk))).grown hg7 (fun k hk => by cases hk; exact .inl (.inl rfl))
                have hwml : Wm.heap.size ≤ w5.heap.size := HG5.out.size
                have hs7 : Sl1 w7 70 v6 (sy.ms i j ++ [.iface 61 (.agg #[.slice a3 n3 c3, .slice a4 n4 c4])]) := hs6.grown hg7 (fun b hb e => by
                  have e := Option.some.inj e
                  rw [hg6o] at hb
                  cases hb
                  rcases hg6f with h | h
                  · exact hFS.1 _ h e
                  · have := HP5.out.lt; omega)
                rw [← HSY.out.2] at hs7
                have hr3 : ∀ g, v6.ownBlock = some g → (sy.F i j).ownBlock = some g ∨ Wm.heap.size ≤ g := fun g hg => by
                  rw [hg6o] at hg
                  cases hg
                  exact hg6f.imp id (fun h => by omega)
                obtain ⟨hP7, hmv⟩ := par_push (m := .tok) HQ.out HIJ.out.1 HIJ.out.2 (fun _ => HSY.out.1) hm7 hs7 hr3 hoff
                have hY7 : ∀ g, f.Y g → ¬ fp N (putF sy i j v6 (sy.ms i j ++ [enc sy.tsv sy.tqv .tok]) sy.sent) g := fun g hg h => by
                  rcases hmv.sub g h with h1 | h1
                  · exact HYY.out g hg h1
                  · have h2 := f.lt g hg
                    have h3 := HKT.out.size
                    have h4 := HBM.out.size
                    omega
                have hk7 : Kp f w7 := (HKT.out.below HBM.out).off hmv.off (fun g hg h => HYY.out g hg h)
                rw [updF_updF, updF_same, ← HTK.out] at hP7
                have HP7 := Lib.hid hP7
                have HY7 := Lib.hid hY7
                have HK7 := Lib.hid hk7
                clear hP7 hmv hY7 hk7 hs7 hr3 hoff hwml hs6 hg6 hg6o hg6f hFS hp6 hm7 hg7
                go_wp2_with fail
                go_roundw
                case rel => exact ⟨k + 1, _, by go_num, hkf, HP7.out, HY7.out, HK7.out⟩
                case measure => simp [intOf]; omega
            · have hkn : k = L := by omega
              subst hkn
              have hrM := hKx.block s.M HYS.out.2.1
              have hrr := hKx.block r HYS.out.2.2
              rw [HFW.out] at hrM hrr
              have HRE := Lib.hid (HRI.out.same hrM hrr)
              have HPE : Hid (Par0 w t N (.slice a1 n1 c1) (.slice a2 n2 c2) (fun a b => if (lf a b && !(a == i && b == j)) = true then [] else t.fl a b) sx wr) := by
                refine Q.congr fun a b _ _ => ?_
                rw [HLF.out, List.take_length]
                by_cases e : a = i ∧ b = j
                · obtain ⟨rfl, rfl⟩ := e
                  rw [updF_same, if_neg (by simp)]
                · rw [updF_other e]
                  have : (a == i && b == j) = false := by
                    rw [Bool.and_eq_false_iff]
                    by_cases ea : a = i
                    · right; simp only [beq_eq_false_iff_ne]; exact fun h => e ⟨ea, h⟩
                    · left; simp only [beq_eq_false_iff_ne]; exact ea
                  rw [this]
                  simp
              clear Q hYx hKx hrM hrr
              go_wp2_with fail
              exact ⟨⟨_, cnt', sx, HRE.out, HPE.out, fun g hg e => HYX.out r HYS.out.2.2 (e ▸ hg)⟩, by rw [HRE.out.left_eq]; exact HMEA.out⟩
end Go.Proofs.Ytahjgdikjaakbaa
