/- What is proved: Proper. No condition beyond those in each statement. -/
import Derived.Test.YthnhmfmlhlpggaaPg
namespace Go.Proofs.Ythnhmfmlhlpggaa
open Go.RowKit
set_option maxRecDepth 100000

theorem enters62 : ∀ args w, (callFunc 62 args).run Try.prog w = .ok (.enter 62 args) w := fun _ _ => rfl
set_option maxHeartbeats 8000000 in
theorem properS_calls (A : Option Addr) (n c : Nat) (es : List (Int × Int)) (B : Option Addr) (d : Nat) (cols : List Int) (w : World) (hn : n = es.length) (hA : RdE w A es) (hl : n ≤ c) (hc : c ≤ 9223372036854775807) (ho : SpOk es)
    (hcl : n = cols.length) (hB : Rd w B cols) (hd : n ≤ d) (hd2 : d ≤ 9223372036854775807) (hpos : ∀ z ∈ cols, 0 ≤ z) (hp : PropS es cols) :
    Calls Try.prog 24 #[.slice A n c, .slice B n d] w fun e w' => e = .returned (.tuple #[.bool true, .int .i64 0]) ∧ Below w.heap.size w w' := by
  have HN := Lib.hid hn
  have HA := Lib.hid hA
  have HO := Lib.hid ho
  have HCL := Lib.hid hcl
  have HB := Lib.hid hB
  have HP := Lib.hid hp
  have hn40 : n ≤ 40 := by have := ho.1; omega
  have CK := Lib.hid (spcheck_calls A n c es w hn hA hl hc ho)
  have hany : cols.any (fun z => decide (z < 0)) = false := by
    rw [List.any_eq_false]
    intro z hz
    have := hpos z hz
    simp; omega
  have CC : Hid (∀ w', Below w.heap.size w w' → Calls Try.prog 61 #[.slice B n d, .func (.func 62) #[] #[]] w' fun e w'' => e = .returned (.bool false) ∧ Below w'.heap.size w' w'') := fun w' hb => by
    have := Pt.containsFunc_calls' 62 #[] enters62 (fun z => decide (z < 0)) B n d cols w' hcl (hB.below hb) hd hd2 (fun i W hi _ => neg_calls _ W)
    rw [hany] at this
    exact this
  clear hn hA ho hcl hB hp hpos hany
  go_enter Try.func24, Try.ntmps24
  go_wp2_with fail
  refine CK.out.mono ?_
  rintro e w1 ⟨rfl, hb1⟩
  have HB1 := Lib.hid hb1
  clear hb1
  go_wp2_with fail
  refine (CC.out w1 HB1.out).mono ?_
  rintro e w2 ⟨rfl, hb2⟩
  have HB2 := Lib.hid (HB1.out.trans (hb2.mono HB1.out.size))
  clear hb2 HB1 CK CC
  go_wp2_with fail
  go_loopw [27] (fun v wr => ∃ i : Nat, v = .int .i64 i ∧ i ≤ n ∧ Hid (Below w.heap.size w wr)) (fun v _ => n - (intOf v).toNat)
  case atStart => exact ⟨0, rfl, Nat.zero_le _, HB2.out⟩
  case round =>
    obtain ⟨i, rfl, hi, HBI⟩ := hrel
    obtain ⟨W0, hW0⟩ : ∃ q, q = wr := ⟨_, rfl⟩
    rw [← hW0] at HBI ⊢
    clear hW0
    by_cases hik : i < n
    · have him : i < es.length := by have := HN.out; omega
      obtain ⟨b, o, rfl, hb, hdx, hdy⟩ := (HA.out.below HBI.out).at i him
      have hsi := HO.out.2 _ (List.getElem_mem him)
      have HEI : Hid (es.getD i (0, 0) = es[i]) := getD_lt _ () him
      obtain ⟨s1, hs1⟩ : ∃ z, z = es[i].1 := ⟨_, rfl⟩
      obtain ⟨s2, hs2⟩ : ∃ z, z = es[i].2 := ⟨_, rfl⟩
      have HEI2 : Hid (es.getD i (0, 0) = (s1, s2)) := by show _ = _; rw [HEI.out, hs1, hs2]
      rw [← hs1] at hdx hsi
      rw [← hs2] at hdy hsi
      clear hs1 hs2 HEI hb
      have i0 : (0 : Int) ≤ (i : Int) := by omega
      have i1 : (i : Int) < (n : Int) := by omega
      have i2 : (i : Int) ≤ (c : Int) := by omega
      obtain ⟨W1, hW1⟩ : ∃ W1, W1 = W0.alloc (.cells #[.int .i64 s1, .int .i64 s2] 60) := ⟨_, rfl⟩
      have h81 : W1.cell? ⟨W0.heap.size, 0, none⟩ = some (.int .i64 s1) := by rw [hW1]; go_simp
      have h82 : W1.cell? ⟨W0.heap.size, 1, none⟩ = some (.int .i64 s2) := by rw [hW1]; go_simp
      have h83 : W0.heap.size < W1.heap.size := by rw [hW1]; simp
      have HB3 : Hid (Below w.heap.size w W1) := by rw [hW1]; exact HBI.out.alloc HBI.out.size _
      have H81 := Lib.hid h81
      have H82 := Lib.hid h82
      have HW1 := Lib.hid hW1
      clear h81 h82 hW1
      go_upto_block 2 with fail
      rw [← HW1.out]
      clear hdx hdy
      go_wp2_with fail
      go_loopw [36] (fun v wq => ∃ j : Nat, v = .int .i64 j ∧ j ≤ i ∧ Hid (Below W1.heap.size W1 wq)) (fun v _ => i - (intOf v).toNat)
      case atStart => exact ⟨0, rfl, Nat.zero_le _, Below.refl _ _⟩
      case round =>
        obtain ⟨j, rfl, hj, HBJ⟩ := hrel
        by_cases hji : j < i
        · have hjm : j < es.length := by have := HN.out; omega
          have hic : i < cols.length := by have := HCL.out; omega
          have hjc : j < cols.length := by have := HCL.out; omega
          have HBW := Lib.hid (HB3.out.trans (HBJ.out.mono HB3.out.size))
          obtain ⟨b', o', e, hb', hdx, hdy⟩ := (HA.out.below HBW.out).at j hjm
          cases e
          obtain ⟨b2, o2, rfl, hb2', hci⟩ := HB.out.at i hic
          obtain ⟨b3, o3, e, hb3', hcj⟩ := HB.out.at j hjc
          cases e
          have hsj := HO.out.2 _ (List.getElem_mem hjm)
          have hpp := HP.out i j him hji
          rw [HEI2.out, getD_lt (0, 0) () hjm, getD_lt 0 () hic, getD_lt 0 () hjc] at hpp
          obtain ⟨t1, ht1⟩ : ∃ z, z = es[j].1 := ⟨_, rfl⟩
          obtain ⟨t2, ht2⟩ : ∃ z, z = es[j].2 := ⟨_, rfl⟩
          obtain ⟨x, hx⟩ : ∃ z, z = cols[i] := ⟨_, rfl⟩
          obtain ⟨y, hy⟩ : ∃ z, z = cols[j] := ⟨_, rfl⟩
          rw [show es[j] = (t1, t2) by rw [ht1, ht2], ← hx, ← hy] at hpp
          rw [← ht1] at hdx hsj
          rw [← ht2] at hdy hsj
          rw [← hx] at hci
          rw [← hy] at hcj
          have HPP := Lib.hid hpp
          obtain ⟨W2, hW2⟩ : ∃ W2, W2 = wr.alloc (.cells #[.int .i64 t1, .int .i64 t2] 60) := ⟨_, rfl⟩
          have hBW2 : Below W1.heap.size W1 W2 := by rw [hW2]; exact HBJ.out.alloc HBJ.out.size _
          have h101 : W2.cell? ⟨wr.heap.size, 0, none⟩ = some (.int .i64 t1) := by rw [hW2]; go_simp
          have h102 : W2.cell? ⟨wr.heap.size, 1, none⟩ = some (.int .i64 t2) := by rw [hW2]; go_simp
          have h103 : wr.heap.size < W2.heap.size := by rw [hW2]; simp
          have h81 := (hBW2.cell (p := ⟨W0.heap.size, 0, none⟩) h83).trans H81.out
          have h82 := (hBW2.cell (p := ⟨W0.heap.size, 1, none⟩) h83).trans H82.out
          have h84 : W0.heap.size < W2.heap.size := Nat.lt_of_lt_of_le h83 hBW2.size
          have hci2 := ((HB3.out.trans (hBW2.mono HB3.out.size)).cell (p := ⟨b2, o2 + i, none⟩) hb2').trans hci
          have hcj2 := ((HB3.out.trans (hBW2.mono HB3.out.size)).cell (p := ⟨b2, o2 + j, none⟩) hb2').trans hcj
          have hb4 : b2 < W2.heap.size := Nat.lt_of_lt_of_le hb2' (HB3.out.trans (hBW2.mono HB3.out.size)).size
          have HC : Hid (∀ w', Below W2.heap.size W2 w' → (w'.cell? ⟨W0.heap.size, 0, none⟩ = some (.int .i64 s1) ∧ w'.cell? ⟨W0.heap.size, 1, none⟩ = some (.int .i64 s2) ∧ w'.cell? ⟨wr.heap.size, 0, none⟩ = some (.int .i64 t1)) ∧ w'.cell? ⟨wr.heap.size, 1, none⟩ = some (.int .i64 t2) ∧ w'.cell? ⟨b2, o2 + i, none⟩ = some (.int .i64 x) ∧ w'.cell? ⟨b2, o2 + j, none⟩ = some (.int .i64 y)) := fun w' hw =>
            ⟨⟨(hw.cell (p := ⟨W0.heap.size, 0, none⟩) h84).trans h81, (hw.cell (p := ⟨W0.heap.size, 1, none⟩) h84).trans h82, (hw.cell (p := ⟨wr.heap.size, 0, none⟩) h103).trans h101⟩, (hw.cell (p := ⟨wr.heap.size, 1, none⟩) h103).trans h102, (hw.cell (p := ⟨b2, o2 + i, none⟩) hb4).trans hci2, (hw.cell (p := ⟨b2, o2 + j, none⟩) hb4).trans hcj2⟩
          have OV : Hid (∀ w', Below W2.heap.size W2 w' → Calls Try.prog 63 #[.agg #[.int .i64 s1, .int .i64 s2], .agg #[.int .i64 t1, .int .i64 t2]] w' fun e w'' => e = .returned (.bool (ovB (s1, s2) (t1, t2))) ∧ Below W2.heap.size W2 w'') := fun w' hw => (overlap_calls s1 s2 t1 t2 ⟨hsi.1, hsi.2.1⟩ ⟨hsj.1, hsj.2.1⟩ w').mono fun e w'' h => ⟨h.1, hw.trans (h.2.mono hw.size)⟩
          have HBW2 := Lib.hid hBW2
          have HW2 := Lib.hid hW2
          have j0 : (0 : Int) ≤ (j : Int) := by omega
          have j1 : (j : Int) < (i : Int) := by omega
          have j2 : (j : Int) < (n : Int) := by omega
          clear ht1 ht2 hx hy hpp hci hcj hci2 hcj2 h81 h82 h101 h102 h103 hBW2 hW2 hb' hb2' hb3' hsj
          cases hov : ovB (s1, s2) (t1, t2)
          · rw [hov] at OV
            clear hov HPP
            go_upto_region 12 with fail
            rw [← HW2.out]
            clear hdx hdy
            refine wp_region_held_drew (S := (fun w' => (w'.cell? ⟨W0.heap.size, 0, none⟩ = some (.int .i64 s1) ∧ w'.cell? ⟨W0.heap.size, 1, none⟩ = some (.int .i64 s2) ∧ w'.cell? ⟨wr.heap.size, 0, none⟩ = some (.int .i64 t1)) ∧ w'.cell? ⟨wr.heap.size, 1, none⟩ = some (.int .i64 t2) ∧ w'.cell? ⟨b2, o2 + i, none⟩ = some (.int .i64 x) ∧ w'.cell? ⟨b2, o2 + j, none⟩ = some (.int .i64 y))) (by kernel_rfl) ?_ (fun hHeld => ?_)
            · exact HC.out _ (Below.drew (Below.refl _ _))
            refine wpAnyH_take (i := 0) (v := .agg #[.int .i64 s1, .int .i64 s2]) rfl (by kernel_rfl) (by kernel_rfl) (by kernel_rfl) (fun _ _ _ h => h) (Or.inl ⟨by rfl, ?_⟩) (by assumption) ?_
            · (intro w hSw; obtain ⟨⟨q1, q2, q3⟩, q4, q5, q6⟩ := hSw; go_simp)
            try simp only [List.getElem_toArray, List.getElem_cons_zero, Act.put, List.setIfInBounds_toArray, List.set_cons_zero, List.set_cons_succ]
            refine wpAnyH_take (i := 1) (v := .agg #[.int .i64 t1, .int .i64 t2]) rfl (by kernel_rfl) (by kernel_rfl) (by kernel_rfl) (fun _ _ _ h => h) (Or.inl ⟨by rfl, ?_⟩) (by assumption) ?_
            · (intro w hSw; obtain ⟨⟨q1, q2, q3⟩, q4, q5, q6⟩ := hSw; go_simp)
            try simp only [List.getElem_toArray, List.getElem_cons_zero, List.getElem_cons_succ, Act.put, List.setIfInBounds_toArray, List.set_cons_zero, List.set_cons_succ]
            refine wpAnyH_ready (rs := [2]) (by kernel_rfl) (by simp) ?_
            refine AllReadyH.cons (o := _) rfl (fun K hK => ?_) AllReadyH.nil
            go_simp
            go_at_call 63
            refine (OV.out _ (Below.drew (Below.refl _ _))).mono ?_
            rintro e w9 ⟨rfl, hb9⟩
            refine hK.out _ _ (HC.out _ hb9) (fun hHeld2 => ?_)
            clear hK K
            try simp only [List.getElem_toArray, List.getElem_cons_zero, List.getElem_cons_succ, Act.put, List.setIfInBounds_toArray, List.set_cons_zero, List.set_cons_succ]
            refine wpAnyH_take (i := 3) (v := .bool false) rfl (by kernel_rfl) (by kernel_rfl) (by kernel_rfl) (fun _ _ _ h => h) (Or.inl ⟨by rfl, ?_⟩) (by assumption) ?_
            · (intro w hSw; obtain ⟨⟨q1, q2, q3⟩, q4, q5, q6⟩ := hSw; go_simp)
            try simp only [List.getElem_toArray, List.getElem_cons_zero, List.getElem_cons_succ, Act.put, List.setIfInBounds_toArray, List.set_cons_zero, List.set_cons_succ]
            refine wpAnyH_take (i := 4) (v := undef) rfl (by kernel_rfl) (by kernel_rfl) (by kernel_rfl) (fun _ _ _ h => h) (Or.inr ⟨by rfl, rfl⟩) (by assumption) ?_
            try simp only [List.getElem_toArray, List.getElem_cons_zero, List.getElem_cons_succ, Act.put, List.setIfInBounds_toArray, List.set_cons_zero, List.set_cons_succ]
            refine wpAnyH_take (i := 5) (v := undef) rfl (by kernel_rfl) (by kernel_rfl) (by kernel_rfl) (fun _ _ _ h => h) (Or.inr ⟨by rfl, rfl⟩) (by assumption) ?_
            try simp only [List.getElem_toArray, List.getElem_cons_zero, List.getElem_cons_succ, Act.put, List.setIfInBounds_toArray, List.set_cons_zero, List.set_cons_succ]
            refine wpAnyH_take (i := 6) (v := undef) rfl (by kernel_rfl) (by kernel_rfl) (by kernel_rfl) (fun _ _ _ h => h) (Or.inr ⟨by rfl, rfl⟩) (by assumption) ?_
            try simp only [List.getElem_toArray, List.getElem_cons_zero, List.getElem_cons_succ, Act.put, List.setIfInBounds_toArray, List.set_cons_zero, List.set_cons_succ]
            refine wpAnyH_take (i := 7) (v := undef) rfl (by kernel_rfl) (by kernel_rfl) (by kernel_rfl) (fun _ _ _ h => h) (Or.inr ⟨by rfl, rfl⟩) (by assumption) ?_
            try simp only [List.getElem_toArray, List.getElem_cons_zero, List.getElem_cons_succ, Act.put, List.setIfInBounds_toArray, List.set_cons_zero, List.set_cons_succ]
            refine wpAnyH_take (i := 8) (v := undef) rfl (by kernel_rfl) (by kernel_rfl) (by kernel_rfl) (fun _ _ _ h => h) (Or.inr ⟨by rfl, rfl⟩) (by assumption) ?_
            try simp only [List.getElem_toArray, List.getElem_cons_zero, List.getElem_cons_succ, Act.put, List.setIfInBounds_toArray, List.set_cons_zero, List.set_cons_succ]
            refine wpAnyH_take (i := 9) (v := undef) rfl (by kernel_rfl) (by kernel_rfl) (by kernel_rfl) (fun _ _ _ h => h) (Or.inr ⟨by rfl, rfl⟩) (by assumption) ?_
            try simp only [List.getElem_toArray, List.getElem_cons_zero, List.getElem_cons_succ, Act.put, List.setIfInBounds_toArray, List.set_cons_zero, List.set_cons_succ]
            refine wpAnyH_take (i := 10) (v := undef) rfl (by kernel_rfl) (by kernel_rfl) (by kernel_rfl) (fun _ _ _ h => h) (Or.inr ⟨by rfl, rfl⟩) (by assumption) ?_
            try simp only [List.getElem_toArray, List.getElem_cons_zero, List.getElem_cons_succ, Act.put, List.setIfInBounds_toArray, List.set_cons_zero, List.set_cons_succ]
            refine wpAnyH_take (i := 11) (v := undef) rfl (by kernel_rfl) (by kernel_rfl) (by kernel_rfl) (fun _ _ _ h => h) (Or.inr ⟨by rfl, rfl⟩) (by assumption) ?_
            try simp only [List.getElem_toArray, List.getElem_cons_zero, List.getElem_cons_succ, Act.put, List.setIfInBounds_toArray, List.set_cons_zero, List.set_cons_succ]
            refine wpAnyH_take (i := 12) (v := undef) rfl (by kernel_rfl) (by kernel_rfl) (by kernel_rfl) (fun _ _ _ h => h) (Or.inr ⟨by rfl, rfl⟩) (by assumption) ?_
            try simp only [List.getElem_toArray, List.getElem_cons_zero, List.getElem_cons_succ, Act.put, List.setIfInBounds_toArray, List.set_cons_zero, List.set_cons_succ]
            refine wpAnyH_take (i := 13) (v := .bool false) rfl (by kernel_rfl) (by kernel_rfl) (by kernel_rfl) (fun _ _ _ h => h) (Or.inl ⟨by rfl, ?_⟩) (by assumption) ?_
            · (intro w hSw; obtain ⟨⟨q1, q2, q3⟩, q4, q5, q6⟩ := hSw; go_simp)
            try simp only [List.getElem_toArray, List.getElem_cons_zero, List.getElem_cons_succ, Act.put, List.setIfInBounds_toArray, List.set_cons_zero, List.set_cons_succ]
            refine wpAnyH_done (by kernel_rfl) ?_ _
            have HB9 := Lib.hid (HBW2.out.trans (hb9.mono HBW2.out.size))
            clear hb9 hHeld2
            go_wp2_with fail
            go_roundw
            case rel => exact ⟨j + 1, by go_num, by omega, HB9.out⟩
            case measure => simp [intOf]; omega
          · rw [hov] at OV
            have hxy : (x == y) = false := by rw [beq_eq_false_iff_ne]; exact HPP.out hov
            clear hov HPP
            go_upto_region 12 with fail
            rw [← HW2.out]
            clear hdx hdy
            have hc8 := HC.out W2 (Below.refl _ _)
            obtain ⟨⟨q1, q2, q3⟩, q4, q5, q6⟩ := hc8
            go_region_held3 (fun w' => (w'.cell? ⟨W0.heap.size, 0, none⟩ = some (.int .i64 s1) ∧ w'.cell? ⟨W0.heap.size, 1, none⟩ = some (.int .i64 s2) ∧ w'.cell? ⟨wr.heap.size, 0, none⟩ = some (.int .i64 t1)) ∧ w'.cell? ⟨wr.heap.size, 1, none⟩ = some (.int .i64 t2) ∧ w'.cell? ⟨b2, o2 + i, none⟩ = some (.int .i64 x) ∧ w'.cell? ⟨b2, o2 + j, none⟩ = some (.int .i64 y))
              ((exact HC.out _ (by repeat (first | with_reducible exact Below.refl _ _ | with_reducible refine Below.drew ?_ | with_reducible assumption))))
              ((go_at_call 63; (with_reducible refine (OV.out _ (by repeat (first | with_reducible exact Below.refl _ _ | with_reducible refine Below.drew ?_ | with_reducible assumption))).mono ?_); rintro e w9 ⟨rfl, hb9⟩))
            have HB9 := Lib.hid (HBW2.out.trans (hb9.mono HBW2.out.size))
            clear hb9 q1 q2 q3 q4 q5 q6
            go_wp2_with fail
            go_roundw
            case rel => exact ⟨j + 1, by go_num, by omega, HB9.out⟩
            case measure => simp [intOf]; omega
        · have hje : j = i := by omega
          subst hje
          have HBF := Lib.hid (HB3.out.trans (HBJ.out.mono HB3.out.size))
          go_wp2_with fail
          go_roundw
          case rel => exact ⟨j + 1, by go_num, by omega, HBF.out⟩
          case measure => simp [intOf]; omega
    · go_wp2_with fail
      go_ret2
      exact ⟨rfl, HBI.out⟩
end Go.Proofs.Ythnhmfmlhlpggaa
