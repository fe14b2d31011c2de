/- What is proved: Best. No condition beyond those in each statement. -/
import Derived.Test.YthnhmfmlhlpggaaZX
import Derived.Test.YthnhmfmlhlpggaaZY
namespace Go.Proofs.Ythnhmfmlhlpggaa
open Go.RowKit
set_option maxRecDepth 100000

/-- The spans in an order. -/
def ordS (es : List (Int × Int)) (ys : List Int) : List (Int × Int) := ys.map fun z => es.getD z.toNat (0, 0)
theorem ordS_len (es : List (Int × Int)) (ys : List Int) : (ordS es ys).length = ys.length := by simp [ordS]
theorem ordS_snoc (es : List (Int × Int)) {ys : List Int} {k : Nat} (hk : k < ys.length) : ordS es (ys.take (k + 1)) = ordS es (ys.take k) ++ [es.getD ys[k].toNat (0, 0)] := by
  unfold ordS
  rw [List.take_succ_eq_append_getElem hk, List.map_append]; rfl
theorem ordS_ok {es : List (Int × Int)} {ys : List Int} (h : SpOk es) (ho : IsOrd es.length ys) : SpOk (ordS es ys) := by
  refine ⟨by rw [ordS_len, ho.len]; exact h.1, fun e he => ?_⟩
  obtain ⟨z, hz, rfl⟩ := List.mem_map.1 he
  obtain ⟨a, b⟩ := ho.mem.1 hz
  have hzl : z.toNat < es.length := by omega
  rw [List.getD_eq_getElem?_getD, List.getElem?_eq_getElem hzl]
  exact h.2 _ (List.getElem_mem hzl)

/-- What Best has found: colours by First Fit in an order by From. -/
def BestOk (es : List (Int × Int)) (cols : List Int) : Prop :=
  cols.length = es.length ∧ ∃ ys fc : List Int, IsOrd es.length ys ∧ Ris (fromK es) ys 0 es.length ∧ fc.length = es.length ∧ FitOk (ordS es ys) fc ∧ ∀ k, k < es.length → cols.getD (ys.getD k 0).toNat 0 = fc.getD k 0

theorem Ow.sl2 {w : World} {base : Nat} {v : Value} {xs : List Int} (h : Ow w base v xs) : ∃ A c, v = .slice A xs.length c ∧ xs.length ≤ c ∧ c ≤ 9223372036854775807 ∧ ∀ t (ht : t < xs.length), ∃ g, A = some ⟨g, 0, none⟩ ∧ base ≤ g ∧ g < w.heap.size ∧ w.cell? ⟨g, t, none⟩ = some (.int .i64 xs[t]) := by
  rcases h.2 with ⟨h1, h2⟩ | ⟨g, cap, cur, e, hb, hg, hnc, hcm, hr⟩
  · have he : xs = [] := List.length_eq_zero_iff.1 h2
    subst he
    exact ⟨none, 0, h1, Nat.le_refl _, by omega, fun t ht => absurd ht (Nat.not_lt_zero _)⟩
  · subst e
    have ha : Arr w base g cap xs := h
    exact ⟨some ⟨g, 0, none⟩, cap, rfl, ha.bd.1, ha.bd.2, fun t ht => ⟨g, rfl, ha.lt.1, ha.lt.2, ha.at t ht⟩⟩
theorem scat_step {ys fc cols : List Int} {n t i : Nat} {x : Int} (hy : IsOrd n ys) (ht : t < n) (hi : ys.getD t 0 = (i : Int)) (hin : i < cols.length) (hx : fc.getD t 0 = x) (h : ∀ j, j < t → cols.getD (ys.getD j 0).toNat 0 = fc.getD j 0) :
    ∀ j, j < t + 1 → (cols.set i x).getD (ys.getD j 0).toNat 0 = fc.getD j 0 := by
  intro j hj
  rw [List.getD_eq_getElem?_getD, List.getElem?_set]
  by_cases e : j = t
  · subst e
    rw [hi, Int.toNat_natCast, if_pos rfl, if_pos hin, hx]; rfl
  · have hne : (ys.getD j 0).toNat ≠ i := by
      intro q
      have h1 := ord_at hy (show j < n by omega)
      have h2 := pos_at hy (show j < n by omega)
      have h3 := pos_at hy ht
      have e2 : ys.getD j 0 = ys.getD t 0 := by rw [hi]; omega
      rw [e2, h3] at h2
      omega
    rw [if_neg (fun q => hne q.symm), ← List.getD_eq_getElem?_getD]
    exact h j (by omega)

def BsI (W4 : World) (es : List (Int × Int)) (ys : List Int) (n : Nat) (v u : Value) (wr : World) : Prop :=
  ∃ k : Nat, u = .int .i64 k ∧ k ≤ n ∧ Hid (OwP wr W4.heap.size v (ordS es (ys.take k))) ∧ Hid (Below W4.heap.size W4 wr)
def BsJ (W7 : World) (base g2 n : Nat) (ys fc : List Int) (u : Value) (wr : World) : Prop :=
  ∃ (k : Nat) (cols : List Int), u = .int .i64 k ∧ k ≤ n ∧ Hid (cols.length = n) ∧ Hid (Arr wr base g2 n cols) ∧ Hid (∀ j, j < k → cols.getD (ys.getD j 0).toNat 0 = fc.getD j 0) ∧ Hid (Bo base g2 W7 wr)

set_option maxHeartbeats 8000000 in
theorem best_calls (A : Option Addr) (n c : Nat) (es : List (Int × Int)) (w : World) (hn : n = es.length) (hA : RdE w A es) (hl : n ≤ c) (hc : c ≤ 9223372036854775807) (ho : SpOk es) (hn40 : n < 40) :
    Calls Try.prog 23 #[.slice A n c] w fun e w' => ∃ g cols, e = .returned (.tuple #[.slice (some ⟨g, 0, none⟩) n n, .int .i64 0]) ∧ BestOk es cols ∧ Rd w' (some ⟨g, 0, none⟩) cols ∧ Below w.heap.size w w' := by
  have HN := Lib.hid hn
  have HA := Lib.hid hA
  have HO := Lib.hid ho
  obtain ⟨W1, hW1⟩ : ∃ W1, W1 = w.alloc (.cells #[.slice A n c] 53) := ⟨_, rfl⟩
  have hb1 : Below w.heap.size w W1 := by rw [hW1]; exact (Below.refl _ _).alloc (Nat.le_refl _) _
  have hs1 : w.heap.size < W1.heap.size := by rw [hW1]; simp
  have hc1 : W1.cell? ⟨w.heap.size, 0, none⟩ = some (.slice A n c) := by rw [hW1]; go_simp
  have HB1 := Lib.hid hb1
  have HC1 := Lib.hid hc1
  have CK := Lib.hid (spcheck_calls A n c es W1 hn (hA.below hb1) hl hc ho)
  have hd1 : w.alloc (.cells #[.slice A n c] 53) = W1 := hW1.symm
  clear hn hA ho hb1 hW1
  go_enter Try.func23, Try.ntmps23
  go_wp2_with fail
  refine CK.out.mono ?_
  rintro e W2 ⟨rfl, hb2⟩
  have HB2 := Lib.hid hb2
  have hc2 := (hb2.cell (p := ⟨w.heap.size, 0, none⟩) hs1).trans hc1
  have hs2 : w.heap.size < W2.heap.size := Nat.lt_of_lt_of_le hs1 hb2.size
  clear hb2 hc1 CK hd1
  go_wp2_with fail
  refine (below_calls n (by omega) W2).mono ?_
  rintro e W3 ⟨rfl, har, hb3⟩
  have HSA := Lib.hid (show SA W2 W2.heap.size W2.heap.size n (idn n) W3 from ⟨har, hb3⟩)
  have HE2 : Hid (RdE W2 A es) := (HA.out.below HB1.out).below HB2.out
  have HC2 := Lib.hid hc2
  have CS := Lib.hid (sortStable_calls W2 W2.heap.size W2.heap.size n n #[.pointer (some ⟨w.heap.size, 0, none⟩)] (fromK es) (fun v => 0 ≤ v ∧ v < n) ⟨fun u v W hu hv hb => cmp59_calls w.heap.size A n c es u v W HN.out (HE2.out.below hb) ((hb.cell (p := ⟨w.heap.size, 0, none⟩) hs2).trans HC2.out) (fun e he => ⟨(HO.out.2 e he).1, by have := HO.out.2 e he; omega⟩) hu hv, fun u hu => by
    obtain ⟨j, rfl⟩ := Int.eq_ofNat_of_zero_le hu.1
    have hj : j < es.length := by have := HN.out; omega
    unfold fromK
    rw [Int.toNat_natCast, List.getD_eq_getElem?_getD, List.getElem?_eq_getElem hj]
    have := HO.out.2 _ (List.getElem_mem hj)
    show 0 ≤ es[j].1 ∧ es[j].1 ≤ 1000
    omega⟩ hn40 (idn n) W3 (fun v hv => mem_idn.1 hv) HSA.out (idn_len n).symm)
  clear har hb3 hc2
  go_wp2_with fail
  refine CS.out.mono ?_
  rintro e W4 ⟨rfl, ys, hri, hre, hsa⟩
  have HRI := Lib.hid hri
  have HYO : Hid (IsOrd n ys) := hre.1.symm
  have HSA4 := Lib.hid hsa
  have HC4 := Lib.hid ((hsa.2.cell (p := ⟨w.heap.size, 0, none⟩) hs2).trans HC2.out)
  have HE4 := Lib.hid (HE2.out.below hsa.2)
  have HB4 := Lib.hid (HB1.out.trans ((HB2.out.trans (hsa.2.mono HB2.out.size)).mono HB1.out.size))
  clear hri hre hsa CS HSA HC2 HE2
  go_wp2_with fail
  go_loopw [6, 25] (BsI W4 es ys n) (fun _ v _ => n - (intOf v).toNat)
  case atStart => exact ⟨0, rfl, Nat.zero_le _, owp_nil _ _, Below.refl _ _⟩
  case round =>
    obtain ⟨k, rfl, hk, HOP, HBE⟩ := hrel
    obtain ⟨P, pc, rfl, hpc1, hpc2, -⟩ := HOP.out.sl
    have HOP1 := Lib.hid HOP.out
    by_cases hlt : k < n
    · have hkl : k < ys.length := by have := HYO.out.len; omega
      have hy1 := (HSA4.out.1.below HBE.out).at k hkl
      have hmem := HYO.out.mem.1 (List.getElem_mem hkl)
      have HSN := Lib.hid (ordS_snoc es hkl)
      obtain ⟨z, hz⟩ : ∃ z, z = ys[k] := ⟨_, rfl⟩
      rw [← hz] at hy1 hmem HSN
      obtain ⟨i, rfl⟩ := Int.eq_ofNat_of_zero_le hmem.1
      have hil : i < es.length := by have := HN.out; omega
      rw [Int.toNat_natCast, getD_lt (0, 0) () hil] at HSN
      obtain ⟨b, o, rfl, hb, d1, d2⟩ := (HE4.out.below HBE.out).at i hil
      obtain ⟨s1, hs1'⟩ : ∃ s, s = es[i].1 := ⟨_, rfl⟩
      obtain ⟨s2, hs2'⟩ : ∃ s, s = es[i].2 := ⟨_, rfl⟩
      rw [show es[i] = (s1, s2) by rw [hs1', hs2']] at HSN
      rw [← hs1'] at d1
      rw [← hs2'] at d2
      have hbx := (HBE.out.cell (p := ⟨w.heap.size, 0, none⟩) (by have := HB4.out.size; show w.heap.size < _; have := HSA4.out.1.lt; omega)).trans HC4.out
      have hlen : (ordS es (ys.take k)).length ≤ 1000 := by rw [ordS_len, List.length_take]; omega
      obtain ⟨A3, n3, c3, w3, hrun, ho3, hb3⟩ := owp_push s1 s2 HOP1.out HBE.out.size hlen
      rw [← HSN.out] at ho3
      have HRUN := Lib.hid hrun
      have H3 := Lib.hid (And.intro ho3 (HBE.out.trans hb3))
      have i0 : (0 : Int) ≤ (i : Int) := by omega
      have i1 : (i : Int) < (n : Int) := by omega
      have k0 : (0 : Int) ≤ (k : Int) := by omega
      have k1 : (k : Int) < (n : Int) := by omega
      clear hrun ho3 hb3 hz hs1' hs2' hb hmem
      go_wp2_with (at_builtin; refine wpList_app rfl (.tmp 29) (.tmp 34) 53 53 rfl rfl _ _ rfl rfl HRUN.out ?_)
      go_roundw
      case rel => exact ⟨k + 1, by go_num, by omega, H3.out.1, H3.out.2⟩
      case measure => simp [intOf]; omega
    · have hkt : ys.take k = ys := List.take_of_length_le (by have := HYO.out.len; omega)
      have hol : (ordS es ys).length = n := by rw [ordS_len, HYO.out.len]
      rw [hkt, hol] at HOP1 hpc1 ⊢
      have HRS := Lib.hid (show RdE wr P (ordS es ys) by obtain ⟨P', c', e, _, _, h⟩ := HOP1.out.sl; injection e with e _ _; rw [e]; exact h)
      have HSP : Hid (SpOk (ordS es ys)) := ordS_ok HO.out (by rw [← HN.out]; exact HYO.out)
      have HOL := Lib.hid hol
      clear hkt hol HOP
      obtain ⟨W5, hW5⟩ : ∃ W5, W5 = wr := ⟨_, rfl⟩
      rw [← hW5] at HBE HRS HOP1 ⊢
      clear hW5
      have hbx := (HBE.out.cell (p := ⟨w.heap.size, 0, none⟩) (by have := HB4.out.size; show w.heap.size < _; have := HSA4.out.1.lt; omega)).trans HC4.out
      obtain ⟨w6, hmk, harr, hb6⟩ := arr_made n (by omega) W5
      have HARR := Lib.hid harr
      have HB6 := Lib.hid hb6
      have CF := Lib.hid (first_calls P n pc (ordS es ys) w6 HOL.out.symm (HRS.out.below hb6) hpc1 hpc2 HSP.out)
      clear harr hb6
      go_wp2_with fail
      refine CF.out.mono ?_
      rintro e w7 ⟨v', fc, rfl, how, hfl, hfo, hb7⟩
      obtain ⟨G, oc, rfl, ho1, ho2, hat⟩ := how.sl2
      have HAT := Lib.hid hat
      have HFL := Lib.hid hfl
      have HFO := Lib.hid hfo
      have HB7 := Lib.hid hb7
      have HAR7 := Lib.hid (HARR.out.below hb7)
      have hgl := HARR.out.lt
      rw [hfl] at ho1 ⊢
      have HSZ : Hid (W2.heap.size < W4.heap.size ∧ W4.heap.size ≤ W5.heap.size ∧ W5.heap.size < w6.heap.size ∧ w6.heap.size ≤ w7.heap.size) := ⟨HSA4.out.1.lt.2, HBE.out.size, hgl.2, hb7.size⟩
      clear how hat hfl hfo hb7 CF hbx hgl hmk
      go_wp2_with fail
      go_loopw [43] (BsJ w7 W5.heap.size W5.heap.size n ys fc) (fun v _ => n - (intOf v).toNat)
      case atStart => exact ⟨0, List.replicate n 0, rfl, Nat.zero_le _, List.length_replicate, HAR7.out, (fun j hj => absurd hj (Nat.not_lt_zero _)), Bo.refl _ _ _⟩
      case round =>
        obtain ⟨t, cols, rfl, ht, HCL, HCA, HCJ, HBO⟩ := hrel
        by_cases hlt2 : t < n
        · have htf : t < fc.length := by have := HFL.out; omega
          obtain ⟨g3, rfl, hg1, hg2, hf1⟩ := HAT.out t htf
          have hf2 : wr.cell? ⟨g3, t, none⟩ = some (.int .i64 fc[t]) := (World.cell?_of_block (HBO.out.2 g3 (by have := HSZ.out; omega))).trans hf1
          have hty : t < ys.length := by have := HYO.out.len; omega
          have hy1 : wr.cell? ⟨W2.heap.size, t, none⟩ = some (.int .i64 ys[t]) :=
            (World.cell?_of_block (HBO.out.2 W2.heap.size (by have := HSZ.out; omega))).trans (((((HSA4.out.1.below HBE.out).below (HB6.out.mono (Nat.le_refl _))).below HB7.out)).at t hty)
          have hmem := HYO.out.mem.1 (List.getElem_mem hty)
          obtain ⟨z, hz⟩ : ∃ z, z = ys[t] := ⟨_, rfl⟩
          rw [← hz] at hy1 hmem
          obtain ⟨i, rfl⟩ := Int.eq_ofNat_of_zero_le hmem.1
          obtain ⟨x, hx⟩ : ∃ z, z = fc[t] := ⟨_, rfl⟩
          rw [← hx] at hf2
          have hic : i < cols.length := by have := HCL.out; omega
          have hcc := HCA.out.at i hic
          have hcf := HCA.out.free i
          have HSET := Lib.hid (HCA.out.set2 i x)
          have HST := Lib.hid (scat_step HYO.out hlt2 (by rw [getD_lt 0 () hty, ← hz]) hic (by rw [getD_lt 0 () htf, ← hx]) HCJ.out)
          generalize cols[i] = old at hcc
          have i0 : (0 : Int) ≤ (i : Int) := by omega
          have i1 : (i : Int) < (n : Int) := by omega
          have t0 : (0 : Int) ≤ (t : Int) := by omega
          have t1 : (t : Int) < (n : Int) := by omega
          clear hz hx hmem hf1 hg1 hg2 htf hty hic
          go_wp2_with fail
          go_roundw
          case rel => exact ⟨t + 1, cols.set i x, by go_num, by omega, by show _ = _; rw [List.length_set, HCL.out], HSET.out.1, HST.out, HBO.out.trans HSET.out.2⟩
          case measure => simp [intOf]; omega
        · have hte : t = n := by omega
          have HBK : Hid (BestOk es cols) := by
            rw [hte] at HCJ
            refine ⟨by rw [HCL.out, HN.out], ys, fc, by rw [← HN.out]; exact HYO.out, by rw [← HN.out]; exact HRI.out, by rw [HFL.out, HN.out], HFO.out, fun j hj => HCJ.out j (by rw [HN.out]; exact hj)⟩
          have HBW : Hid (Below w.heap.size w wr) := by
            have s1 := HSZ.out
            have s2 := HB4.out.size
            have b1 := HBE.out.trans ((HB6.out.mono HBE.out.size).trans ((HB7.out.mono (by omega)).trans (HBO.out.1.mono (by omega))))
            exact HB4.out.trans (b1.mono (by omega))
          clear hte
          go_wp2_with fail
          go_ret2
          exact ⟨W5.heap.size, cols, rfl, HBK.out, HCA.out.rd, HBW.out⟩
end Go.Proofs.Ythnhmfmlhlpggaa
