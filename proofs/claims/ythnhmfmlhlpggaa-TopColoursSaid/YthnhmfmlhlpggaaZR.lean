/- What is proved: TopColours' law. No condition beyond those in each statement. -/
import Derived.Test.YthnhmfmlhlpggaaZQ
import Derived.Test.YthnhmfmlhlpggaaZ
import Derived.Test.YthnhmfmlhlpggaaI
import Derived.Deep.RegionHeld3
import Derived.Deep.CutRange
namespace Go.Proofs.Ythnhmfmlhlpggaa
open Go.RowKit Kn
set_option maxRecDepth 100000

theorem np_mul : ∀ n : Nat, n ≤ 8 → (n : Int) * ((n : Int) - 1) = ((n * (n - 1) : Nat) : Int) ∧ Int.tdiv ((n * (n - 1) : Nat) : Int) 2 = ((Pt.npairs n : Nat) : Int) ∧ n * (n - 1) ≤ 56 := by decide +kernel
theorem np_small : ∀ n, n ≤ 8 → Pt.npairs n ≤ 28 := by decide
/-- A row of zeros that is filled with ones. -/
def onesL (n k : Nat) : List Int := List.replicate k 1 ++ List.replicate (n - k) 0
theorem onesL_len {n k : Nat} (h : k ≤ n) : (onesL n k).length = n := by simp [onesL]; omega
theorem onesL_set {n k : Nat} (h : k < n) : (onesL n k).set k 1 = onesL n (k + 1) := by
  unfold onesL
  rw [List.set_append_right _ _ (by simp), List.length_replicate, Nat.sub_self, show n - k = (n - (k + 1)) + 1 by omega, List.replicate_succ, List.set_cons_zero, List.replicate_succ', List.append_assoc]
  rfl
theorem onesL_end (n : Nat) : onesL n n = List.replicate n 1 := by simp [onesL]
def OneI (W2 : World) (g n : Nat) (v : Value) (wr : World) : Prop := ∃ k : Nat, v = .int .i64 k ∧ k ≤ n ∧ Hid (Arr wr W2.heap.size g n (onesL n k)) ∧ Hid (Below W2.heap.size W2 wr)
def ThI (W2 : World) (g np n p : Nat) (es : List (Int × Int)) (m : Nat) (v : Value) (wr : World) : Prop := ∃ t : Nat, v = .int .i64 t ∧ t ≤ m ∧ Hid (Arr wr W2.heap.size g np (bipC n p (es.take t))) ∧ Hid (Below W2.heap.size W2 wr)
def CmI (w : World) (p q m : Nat) (v9 v10 : Value) (wr : World) : Prop :=
  ∃ (es : List (Int × Int)) (g c : Nat), v10 = .int .i64 es.length ∧ es.length ≤ m ∧ es.length ≤ 12 ∧ v9 = .slice (some ⟨g, 0, none⟩) es.length c ∧ Hid (EsIn p q es) ∧ Hid (OwE wr w.heap.size g c es) ∧ Hid (Below w.heap.size w wr)

set_option maxHeartbeats 8000000 in
theorem colourslaw (x0 x1 : Int) (hx0 : 0 ≤ x0 ∧ x0 ≤ 255) (hx1 : 0 ≤ x1 ∧ x1 ≤ 255) (A : Option Addr) (m c : Nat) (ps : List (Int × Int)) (w : World) (hm : m = ps.length) (hA : RdP w A ps) (hl : m ≤ c) (hc : c ≤ 9223372036854775807) (hps : ∀ p ∈ ps, (0 ≤ p.1 ∧ p.1 ≤ 255) ∧ (0 ≤ p.2 ∧ p.2 ≤ 255)) :
    Calls Try.prog 3 #[.int .u8 x0, .int .u8 x1, .slice A m c] w fun e w' => e = .returned (.bool true) ∧ Below w.heap.size w w' := by
  have HM := Lib.hid hm
  have HA := Lib.hid hA
  have HPS := Lib.hid hps
  have hm63 : (m : Int) ≤ 9223372036854775807 := by omega
  obtain ⟨p, hp⟩ : ∃ p : Nat, x0 % 4 + 1 = (p : Int) := ⟨(x0 % 4 + 1).toNat, by omega⟩
  obtain ⟨q, hq⟩ : ∃ q : Nat, x1 % 4 + 1 = (q : Int) := ⟨(x1 % 4 + 1).toNat, by omega⟩
  have hp4 : 1 ≤ p ∧ p ≤ 4 := by omega
  have hq4 : 1 ≤ q ∧ q ≤ 4 := by omega
  have t0 : Int.tmod x0 4 = (p : Int) - 1 := by rw [Int.tmod_eq_emod_of_nonneg hx0.1]; omega
  have t1 : Int.tmod x1 4 = (q : Int) - 1 := by rw [Int.tmod_eq_emod_of_nonneg hx1.1]; omega
  have pz : ((p : Int) == 0) = false := by rw [beq_eq_false_iff_ne]; omega
  have qz : ((q : Int) == 0) = false := by rw [beq_eq_false_iff_ne]; omega
  obtain ⟨p1, p4⟩ := hp4
  obtain ⟨q1, q4⟩ := hq4
  obtain ⟨x00, x01⟩ := hx0
  obtain ⟨x10, x11⟩ := hx1
  clear hm hA hps hp hq
  have HNEW := Lib.hid (owe_new w w.heap.size (Nat.le_refl _))
  go_enter Try.func3, Try.ntmps3
  go_wp2_with fail
  go_loopw [9, 10] (fun v9 v10 wr => CmI w p q m v9 v10 wr) (fun _ v10 _ => m - (intOf v10).toNat)
  case atStart => exact ⟨[], w.heap.size, 0, rfl, Nat.zero_le _, by simp, rfl, (fun e he => by cases he), HNEW.out, (Below.refl _ _).alloc (Nat.le_refl _) _⟩
  case round =>
    obtain ⟨es, g, cg, hv10, hem, he12, hv9, HG, HO, HB⟩ := hrel
    subst hv10
    subst hv9
    obtain ⟨i, hi⟩ : ∃ i, i = es.length := ⟨_, rfl⟩
    rw [← hi] at hem he12 ⊢
    by_cases hcond : i < m ∧ i < 12
    · obtain ⟨h1, h2⟩ := hcond
      have hil : i < ps.length := by have := HM.out; omega
      obtain ⟨b, o, rfl, hb, hc1, hc2⟩ := HA.out.at i hil
      have hp := HPS.out ps[i] (List.getElem_mem hil)
      obtain ⟨z1, hz1⟩ : ∃ z, z = ps[i].1 := ⟨_, rfl⟩
      obtain ⟨z2, hz2⟩ : ∃ z, z = ps[i].2 := ⟨_, rfl⟩
      rw [← hz1] at hc1 hp
      rw [← hz2] at hc2 hp
      obtain ⟨⟨z10, z11⟩, z20, z21⟩ := hp
      have a1 := Int.emod_nonneg z1 (by omega : (p : Int) ≠ 0)
      have a2 := Int.emod_lt_of_pos z1 (by omega : 0 < (p : Int))
      obtain ⟨a, ha⟩ : ∃ a : Int, z1 % p = a := ⟨_, rfl⟩
      rw [ha] at a1 a2
      have b1 := Int.emod_nonneg z2 (by omega : (q : Int) ≠ 0)
      have b2 := Int.emod_lt_of_pos z2 (by omega : 0 < (q : Int))
      obtain ⟨bb, hbb⟩ : ∃ a : Int, z2 % q = a := ⟨_, rfl⟩
      rw [hbb] at b1 b2
      have t2 : Int.tmod z1 p = a := by rw [← ha]; exact Int.tmod_eq_emod_of_nonneg z10
      have t3 : Int.tmod z2 q = bb := by rw [← hbb]; exact Int.tmod_eq_emod_of_nonneg z20
      have pn : ¬ p = 0 := by omega
      have qn : ¬ q = 0 := by omega
      obtain ⟨g', c', w', hrun, ho, hb'⟩ := owe_push (w := wr.drew) a bb HO.out HB.out.drew.size (by omega)
      rw [← hi] at hrun
      have HRUN : Hid (∃ v' w'', (Builtin.append_ #[23, 23] 23 #[.slice (some ⟨g, 0, none⟩) i cg, .slice (some ⟨wr.heap.size, 0, none⟩) 1 1]).run Try.prog (wr.alloc (.cells #[.int .i64 a, .int .i64 bb] 26)).drew = .ok v' w'' ∧ v' = .slice (some ⟨g', 0, none⟩) (i + 1) c' ∧ w'' = w') := ⟨_, _, hrun, rfl, rfl⟩
      have HO2 := Lib.hid ho
      have HB2 : Hid (Below w.heap.size w w') := HB.out.drew.trans hb'
      have HI := Lib.hid hi
      have HG2 : Hid (EsIn p q (es ++ [(a, bb)])) := by
        intro e he
        rcases List.mem_append.1 he with he | he
        · exact HG.out e he
        · have : e = (a, bb) := by simpa using he
          subst this
          exact ⟨⟨a1, a2⟩, b1, b2⟩
      have HS : Hid (∀ w', Below w.heap.size w w' → w'.cell? ⟨b, o + i * 2, none⟩ = some (.int .u8 z1) ∧ w'.cell? ⟨b, o + i * 2 + 1, none⟩ = some (.int .u8 z2)) := fun w' hw =>
        ⟨(hw.cell (p := ⟨b, o + i * 2, none⟩) hb).trans hc1, (hw.cell (p := ⟨b, o + i * 2 + 1, none⟩) hb).trans hc2⟩
      have i0 : (0 : Int) ≤ (i : Int) := by omega
      have i1 : (i : Int) < (m : Int) := by omega
      have wz1 : IntKind.i64.wrap z1 = z1 := IntWalk.i64_in _ (by omega)
      have wz2 : IntKind.i64.wrap z2 = z2 := IntWalk.i64_in _ (by omega)
      clear hrun ho hb' hc1 hc2 hz1 hz2 hi ha hbb
      go_wp2_with fail
      go_region_held3 (fun w' => w'.cell? ⟨b, o + i * 2, none⟩ = some (.int .u8 z1) ∧ w'.cell? ⟨b, o + i * 2 + 1, none⟩ = some (.int .u8 z2))
        ((first | exact HS.out _ HB.out.drew | exact HS.out _ (HB.out.drew.alloc HB.out.size _) | exact HS.out _ HB2.out))
        ((refine step_app (W := (wr.alloc (.cells #[.int .i64 a, .int .i64 bb] 26)).drew) (R := fun v' w'' => v' = .slice (some ⟨g', 0, none⟩) (i + 1) c' ∧ w'' = w') (by rfl) (.tmp 42) (.tmp 60) 23 23 (by rfl) (by rfl) (.slice (some ⟨g, 0, none⟩) i cg) (.slice (some ⟨wr.heap.size, 0, none⟩) 1 1) (by rfl) (by rfl) HRUN.out ?_; rintro v' w'' ⟨rfl, rfl⟩))
      all_goals
        go_wp2_with fail
        go_roundw
        case rel =>
          have hl2 : (es ++ [(a, bb)]).length = i + 1 := by rw [List.length_append, ← HI.out]; rfl
          exact ⟨es ++ [(a, bb)], g', c', by rw [hl2]; go_num, by omega, by omega, by rw [hl2], HG2.out, HO2.out, HB2.out⟩
        case measure => simp [intOf]; omega
    · have HI := Lib.hid hi
      clear hi
      obtain ⟨W2, hW2⟩ : ∃ q, q = wr := ⟨_, rfl⟩
      rw [← hW2] at HO HB ⊢
      clear hW2
      go_upto_region 3 with fail
      go_cut [39] (fun q wx => q = .bool false ∧ W2 = wx)
      case first =>
        by_cases h1 : i < m
        · have h2' : decide ((i : Int) < 12) = false := decide_eq_false (by omega)
          clear hcond
          go_wp2_with fail
          go_meet
          exact ⟨rfl, rfl⟩
        · clear hcond
          go_wp2_with fail
          go_meet
          exact ⟨rfl, rfl⟩
      case rest =>
        obtain ⟨rfl, rfl⟩ := hcut
        obtain ⟨n, hn⟩ : ∃ n, n = p + q := ⟨_, rfl⟩
        have hpq : IntKind.i64.wrap ((p : Int) + (q : Int)) = (n : Int) := by rw [hn]; exact IntWalk.i64_in _ (by omega)
        have hpq2 : (p : Int) + (q : Int) = (n : Int) := by omega
        have HN := Lib.hid hn
        clear hn
        have hn8 : n ≤ 8 := by have := HN.out; omega
        obtain ⟨hw1, hw2, hw3⟩ := np_mul n hn8
        obtain ⟨k2, hk2⟩ : ∃ k, k = n * (n - 1) := ⟨_, rfl⟩
        have hnp := np_small n hn8
        obtain ⟨np, hnpe⟩ : ∃ k, k = Pt.npairs n := ⟨_, rfl⟩
        rw [← hnpe] at hw2 hnp
        rw [← hk2] at hw1 hw2 hw3
        have wk2 : IntKind.i64.wrap (k2 : Int) = k2 := IntWalk.i64_in _ (by omega)
        have wnp : IntKind.i64.wrap (np : Int) = np := IntWalk.i64_in _ (by omega)
        have HNP := Lib.hid hnpe
        clear hnpe hk2
        obtain ⟨w3, hmk, harr, hb3⟩ := arr_made np (by omega) W2
        have HARR := Lib.hid harr
        have HB3 := Lib.hid hb3
        clear harr hb3
        go_wp2_with fail
        go_loopw [13] (fun v wr => OneI W2 W2.heap.size np v wr) (fun v _ => np - (intOf v).toNat)
        case atStart => exact ⟨0, rfl, Nat.zero_le _, by show Arr _ _ _ _ _; unfold onesL; simpa using HARR.out, HB3.out⟩
        case round =>
          obtain ⟨k, rfl, hk, HK, HBK⟩ := hrel
          by_cases hlt : k < np
          · have hc0 := HK.out.at k (by rw [onesL_len hk]; exact hlt)
            have hf0 := HK.out.free k
            have HSET := Lib.hid (HK.out.set k 1)
            rw [onesL_set hlt] at HSET
            clear HK
            go_wp2_with fail
            go_roundw
            case rel => exact ⟨k + 1, by go_num, by omega, HSET.out.1, HBK.out.trans HSET.out.2⟩
            case measure => simp [intOf]; omega
          · have hke : k = np := by omega
            subst hke
            have HK2 : Hid (Arr wr W2.heap.size W2.heap.size k (bipC n p (es.take 0))) := by
              have := HK.out
              rw [onesL_end, HNP.out] at this
              rw [HNP.out]
              exact this
            have HE2 := Lib.hid (HO.out.rd.below HBK.out)
            clear HK
            go_wp2_with fail
            go_loopw [14] (fun v wr => ThI W2 W2.heap.size k n p es i v wr) (fun v _ => i - (intOf v).toNat)
            case atStart => exact ⟨0, rfl, Nat.zero_le _, HK2.out, HBK.out⟩
            case round =>
              obtain ⟨t, rfl, ht, HT, HBT⟩ := hrel
              by_cases hlt3 : t < i
              · have htl : t < es.length := by have := HI.out; omega
                obtain ⟨b, o, e, hb, hdx, hdy⟩ := HO.out.rd.at t htl
                cases e
                rw [Nat.zero_add] at hdx hdy
                have hin := HG.out _ (List.getElem_mem htl)
                obtain ⟨⟨u0, u1⟩, v0, v1⟩ := hin
                obtain ⟨a, ha⟩ := Int.eq_ofNat_of_zero_le u0
                obtain ⟨d, hd⟩ := Int.eq_ofNat_of_zero_le v0
                rw [ha] at hdx u1
                rw [hd] at hdy v1
                have hnn := HN.out
                have CP := Lib.hid (fun w' => pair_calls n a (p + d) hn8 (by omega) (by omega) w')
                obtain ⟨k', hk'⟩ : ∃ k' : Nat, Pt.placeZ (n : Nat) (a : Nat) ((p + d : Nat) : Int) = (k' : Int) := ⟨(Pt.placeZ (n : Nat) (a : Nat) ((p + d : Nat) : Int)).toNat, by
                  have := prS_place n hn8 a (by omega) (p + d) (by omega) (by omega) (by omega)
                  have h0 := (by decide +kernel : ∀ n : Nat, n ≤ 8 → ∀ a, a < 8 → ∀ b, b < 8 → a < b → b < n → 0 ≤ Pt.placeZ (n : Nat) (a : Nat) (b : Nat)) n hn8 a (by omega) (p + d) (by omega) (by omega) (by omega)
                  omega⟩
                have hklt : k' < k := by
                  have := place_lt n hn8 a (by omega) (p + d) (by omega) (by omega) (by omega)
                  rw [hk', Int.toNat_natCast] at this
                  rw [HNP.out]; exact this
                rw [hk'] at CP
                have wpd : IntKind.i64.wrap ((p : Int) + (d : Int)) = ((p + d : Nat) : Int) := by rw [show (p : Int) + (d : Int) = ((p + d : Nat) : Int) by omega]; exact IntWalk.i64_in _ (by omega)
                have HSN : Hid (bipC n p (es.take (t + 1)) = (bipC n p (es.take t)).set k' 0) := by
                  show _ = _
                  rw [List.take_succ_eq_append_getElem htl, bipC_snoc, ha, hd, show (p : Int) + ((d : Nat) : Int) = ((p + d : Nat) : Int) by omega, hk', Int.toNat_natCast]
                have HS : Hid (∀ w', Below W2.heap.size W2 w' → w'.cell? ⟨g, t * 2, none⟩ = some (.int .i64 a) ∧ w'.cell? ⟨g, t * 2 + 1, none⟩ = some (.int .i64 d)) := fun w' hw =>
                  ⟨(hw.cell (p := ⟨g, t * 2, none⟩) hb).trans hdx, (hw.cell (p := ⟨g, t * 2 + 1, none⟩) hb).trans hdy⟩
                have hlen : (bipC n p (es.take t)).length = k := by rw [bip_len, HNP.out]
                have hc0 : wr.drew.cell? ⟨W2.heap.size, k', none⟩ = some (.int .i64 ((bipC n p (es.take t))[k']'(by rw [hlen]; exact hklt))) := HT.out.at k' (by rw [hlen]; exact hklt)
                have hf0 : wr.drew.frozen? ⟨W2.heap.size, k', none⟩ = false := HT.out.free k'
                have HSET := Lib.hid ((HT.out.drew).set k' 0)
                rw [← HSN.out] at HSET
                have i0 : (0 : Int) ≤ (t : Int) := by omega
                have i1 : (t : Int) < (i : Int) := by omega
                have i2 : (0 : Int) ≤ (k' : Int) := by omega
                have i3 : (k' : Int) < (k : Int) := by omega
                have hcst : (((p + d : Nat) : Int)) = (p : Int) + (d : Int) := by omega
                rw [hcst] at CP wpd
                clear hdx hdy ha hd hk' hnn hcst
                generalize ((bipC n p (es.take t))[k']'(by rw [bip_len]; rw [← HNP.out]; exact hklt)) = old at hc0
                go_wp2_with fail
                go_region_held3 (fun w' => w'.cell? ⟨g, t * 2, none⟩ = some (.int .i64 a) ∧ w'.cell? ⟨g, t * 2 + 1, none⟩ = some (.int .i64 d))
                  ((first | exact HS.out _ HBT.out.drew | exact HS.out _ (HBT.out.drew.trans HSET.out.2)))
                  ((go_at_call 6; (with_reducible refine (CP.out _).mono ?_); rintro e w' ⟨rfl, rfl⟩))
                go_wp2_with fail
                go_roundw
                case rel => exact ⟨t + 1, by go_num, by omega, HSET.out.1, HBT.out.drew.trans HSET.out.2⟩
                case measure => simp [intOf]; omega
              · have hte : t = i := by omega
                subst hte
                have HK3 : Hid (Arr wr W2.heap.size W2.heap.size k (bipC n p es)) := by
                  have := HT.out
                  rw [List.take_of_length_le (by rw [HI.out]; exact Nat.le_refl _)] at this
                  exact this
                clear HT
                have hn1 : 1 ≤ n := by have := HN.out; omega
                obtain ⟨hf, hcl, hfl⟩ := clique_half HN.out hn1 hn8 HG.out
                have HFL := Lib.hid hfl
                have hcl0 := clique_no3 HN.out hn1 hn8 HG.out
                obtain ⟨half, hhalf⟩ : ∃ h, h = (n + 1) / 2 := ⟨_, rfl⟩
                rw [← hhalf] at hcl HFL
                have CL1 : Hid (Calls Try.prog 7 #[.int .i64 n, .slice (some ⟨W2.heap.size, 0, none⟩) k k, .int .i64 0, .int .i64 3] wr (Pt.OptR wr (none, 5))) := by
                  have := Pt.Clique_calls n 0 3 (some ⟨W2.heap.size, 0, none⟩) k k (bipC n p es) wr (by rw [bip_len, HNP.out]) HK3.out.rd (Nat.le_refl _) (by omega)
                  rw [hcl0] at this
                  exact this
                have CL2 : Hid (∀ w', Below wr.heap.size wr w' → Calls Try.prog 7 #[.int .i64 n, .slice (some ⟨W2.heap.size, 0, none⟩) k k, .int .i64 1, .int .i64 half] w' (Pt.OptR w' (some hf, 0))) := fun w' hb => by
                  have := Pt.Clique_calls n 1 half (some ⟨W2.heap.size, 0, none⟩) k k (bipC n p es) w' (by rw [bip_len, HNP.out]) (HK3.out.rd.below hb) (Nat.le_refl _) (by omega)
                  rw [hcl] at this
                  exact this
                have hd1 : Int.tdiv ((n : Int) + 1) 2 = (half : Int) := by rw [hhalf, Int.tdiv_eq_ediv_of_nonneg (by omega)]; omega
                have hbh : half ≤ 4 := by omega
                have wh : IntKind.i64.wrap (half : Int) = half := IntWalk.i64_in _ (by omega)
                clear hcl hcl0 hhalf hfl
                go_wp2_with fail
                refine CL1.out.mono ?_
                rintro e w4 ⟨v4, rfl, _, hb4⟩
                have HB4 := Lib.hid hb4
                clear hb4
                go_wp2_with fail
                refine (CL2.out w4 HB4.out).mono ?_
                rintro e w5 ⟨v5, rfl, ho5, hb5⟩
                obtain ⟨⟨a5, n5, c5, rfl⟩, hsl5⟩ := ho5
                have HB5 := Lib.hid (HB4.out.trans (hb5.mono HB4.out.size))
                have hn5 : n5 = half := by
                  obtain ⟨A', m', e, _⟩ := hsl5
                  injection e with _ e1 _
                  rw [e1, HFL.out]
                subst hn5
                clear hsl5 hb5
                go_wp2_with fail
                obtain ⟨xs, hxs, hxl, hxr, hxp⟩ := col_found es
                have HXP : Hid (Prop10 es xs) := fun i j hi hj h => by
                  have := hxp i j hi hj h.symm
                  exact ⟨fun e => this.1 e.symm, fun e => this.2 e.symm⟩
                have HXL := Lib.hid hxl
                have HCO := Lib.hid hxs
                have HE5 : Hid (RdE w5 (some ⟨g, 0, none⟩) es) := (HO.out.rd.below HBT.out).below HB5.out
                have hcg : t ≤ cg := by have := HO.out.bd; have := HI.out; omega
                have hcg2 : cg ≤ 9223372036854775807 := by have := HO.out.bd; omega
                clear hxs hxl hxr hxp
                refine (Colors_calls p q ⟨by omega, by omega⟩ ⟨by omega, by omega⟩ es HG.out (by have := HI.out; omega) (some ⟨g, 0, none⟩) t cg HI.out hcg hcg2 w5 HE5.out xs HCO.out).mono ?_
                rintro e w6 ⟨A6, k6, c6, rfl, hk6, hkc6, hc6, hA6, hb6⟩
                have HA6 := Lib.hid hA6
                have HB6 := Lib.hid (HB5.out.trans (hb6.mono HB5.out.size))
                have hk6t : k6 = t := by have := HXL.out; have := HI.out; omega
                subst hk6t
                clear hA6 hb6 HCO HE5
                go_wp2_with fail
                refine (lives_calls w6).mono ?_
                rintro e w7 ⟨rfl, hb7⟩
                have HA7 := Lib.hid (HA6.out.below hb7)
                have HB7 := Lib.hid (HB6.out.trans (hb7.mono HB6.out.size))
                clear hb7
                have HE7 : Hid (RdE w7 (some ⟨g, 0, none⟩) es) := (HO.out.rd.below HBT.out).below HB7.out
                go_wp2_with fail
                go_loopw [21] (fun v wr => ∃ i : Nat, v = .int .i64 i ∧ i ≤ k6 ∧ Hid (Below w7.heap.size w7 wr)) (fun v _ => k6 - (intOf v).toNat)
                case atStart => exact ⟨0, rfl, Nat.zero_le _, Below.refl _ _⟩
                case round =>
                  obtain ⟨i, rfl, hi, HBI⟩ := hrel
                  by_cases hik : i < k6
                  · go_wp2_with fail
                    go_loopw [22] (fun v wr => ∃ j : Nat, v = .int .i64 j ∧ j ≤ i ∧ Hid (Below w7.heap.size w7 wr)) (fun v _ => i - (intOf v).toNat)
                    case atStart => exact ⟨0, rfl, Nat.zero_le _, HBI.out⟩
                    case round =>
                      obtain ⟨j, rfl, hj, HBJ⟩ := hrel
                      by_cases hji : j < i
                      · have him : i < es.length := by have := HI.out; omega
                        have hil : i < xs.length := by have := HXL.out; omega
                        have hjm : j < es.length := by omega
                        have hjl : j < xs.length := by omega
                        obtain ⟨b, o, e, hb, hdx, hdy⟩ := (HE7.out.below HBJ.out).at j hjm
                        cases e
                        obtain ⟨bb, oo, e, hbb, hcx, hcy⟩ := (HE7.out.below HBJ.out).at i him
                        cases e
                        obtain ⟨b2, o2, rfl, hb2, hdl⟩ := (HA7.out.below HBJ.out).at j hjl
                        obtain ⟨bb2, oo2, e, hbb2, hci⟩ := (HA7.out.below HBJ.out).at i hil
                        cases e
                        rw [Nat.zero_add] at hdx hdy hcx hcy
                        have HPP : Hid (xs[i] = xs[j] → es[i].1 ≠ es[j].1 ∧ es[i].2 ≠ es[j].2) := fun h => by
                          have := HXP.out i j him hji (by rw [getD_lt (0 : Int) () hil, getD_lt (0 : Int) () hjl, h])
                          rw [eA_at him, eA_at hjm, eB_at him, eB_at hjm] at this
                          exact this
                        obtain ⟨xj, hxj⟩ : ∃ z, z = es[j].1 := ⟨_, rfl⟩
                        obtain ⟨yj, hyj⟩ : ∃ z, z = es[j].2 := ⟨_, rfl⟩
                        obtain ⟨lj, hlj⟩ : ∃ z, z = xs[j] := ⟨_, rfl⟩
                        obtain ⟨xi, hxi⟩ : ∃ z, z = es[i].1 := ⟨_, rfl⟩
                        obtain ⟨yi, hyi⟩ : ∃ z, z = es[i].2 := ⟨_, rfl⟩
                        obtain ⟨li, hli⟩ : ∃ z, z = xs[i] := ⟨_, rfl⟩
                        rw [← hxj, ← hyj, ← hlj, ← hxi, ← hyi, ← hli] at HPP
                        rw [← hxj] at hdx
                        rw [← hyj] at hdy
                        rw [← hlj] at hdl
                        rw [← hxi] at hcx
                        rw [← hyi] at hcy
                        rw [← hli] at hci
                        clear hxj hyj hlj hxi hyi hli hb hb2 hbb hbb2
                        have i0 : (0 : Int) ≤ (j : Int) := by omega
                        have i1 : (j : Int) < (k6 : Int) := by omega
                        have i2 : (0 : Int) ≤ (i : Int) := by omega
                        have i3 : (i : Int) < (k6 : Int) := by omega
                        cases h1 : (li == lj)
                        · go_wp2_with fail
                          go_quiet (fail)
                          go_wp2_with fail
                          go_roundw
                          case rel => exact ⟨j + 1, by go_num, by omega, below_drewN HBJ.out _⟩
                          case measure => simp [intOf]; omega
                        · have hpp := HPP.out (by simpa using h1)
                          have h2 : (xi == xj) = false := by rw [beq_eq_false_iff_ne]; exact hpp.1
                          have h3 : (yi == yj) = false := by rw [beq_eq_false_iff_ne]; exact hpp.2
                          clear hpp
                          go_wp2_with fail
                          go_quiet (fail)
                          go_wp2_with fail
                          go_roundw
                          case rel => exact ⟨j + 1, by go_num, by omega, below_drewN HBJ.out _⟩
                          case measure => simp [intOf]; omega
                      · have he : j = i := by omega
                        subst he
                        go_wp2_with fail
                        go_roundw
                        case rel => exact ⟨j + 1, by go_num, by omega, HBJ.out⟩
                        case measure => simp [intOf]; omega
                  · have HEI := Lib.hid (HE7.out.below HBI.out)
                    have HAI := Lib.hid (HA7.out.below HBI.out)
                    have hel : xs.length = es.length := HXL.out
                    have CP := Lib.hid (proper10_calls es xs (some ⟨g, 0, none⟩) A6 xs.length cg xs.length c6 hel (hk6 ▸ hcg) hcg2 rfl rfl (hk6 ▸ hkc6) hc6 HXP.out wr HEI.out HAI.out)
                    clear hel
                    go_wp2_with fail
                    with_reducible refine CP.out.mono ?_
                    rintro e w8 ⟨rfl, hb8⟩
                    have HB8 : Hid (Below w.heap.size w w8) := by
                      have b1 := HB7.out.trans ((HBI.out.trans (hb8.mono HBI.out.size)).mono HB7.out.size)
                      have b2 := HBT.out.trans (b1.mono HBT.out.size)
                      exact HB.out.trans (b2.mono HB.out.size)
                    clear hb8
                    go_wp2_with fail
                    go_ret
                    exact ⟨rfl, HB8.out⟩
end Go.Proofs.Ythnhmfmlhlpggaa
