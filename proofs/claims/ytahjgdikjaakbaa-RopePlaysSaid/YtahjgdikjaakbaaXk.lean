/- What is proved: Plays. No condition beyond those in each statement. -/
import Derived.Test.YtahjgdikjaakbaaXj
import Derived.Test.YtahjgdikjaakbaaAt
import Derived.Deep.CutBlock
namespace Go.Proofs.Ytahjgdikjaakbaa
open Go.RowKit

/-- A store into one's own row. -/
theorem ow_poke {w : World} {b : Nat} {v : Value} {xs : List Int} (h : Ow w b v xs) (hx : xs ≠ []) : ∃ g c x, v = .slice (some ⟨g, 0, none⟩) xs.length c ∧ w.cell? ⟨g, 0, none⟩ = some (.int .i64 x) ∧ w.frozen? ⟨g, 0, none⟩ = false ∧ 0 < xs.length ∧ xs.length ≤ c ∧ ∀ y, Below b w (w.setCell ⟨g, 0, none⟩ y) := by
  have hl : 0 < xs.length := List.length_pos_iff.2 hx
  have h' := h
  rcases h with ⟨_, ⟨rfl, hn⟩ | ⟨g, cap, cur, rfl, hb, hg, h1, h2, h3, h4⟩⟩
  · omega
  · have := World.ownsRow.cells h' (g := g) rfl 0 (.int .i64 xs[0]) (by simp [hl])
    rw [addr_add] at this
    refine ⟨g, cap, xs[0], rfl, this, by simp [World.frozen?, hg], hl, h1, fun y => (Below.refl _ _).setCell hb y⟩
def PlI (w0 : World) (R L : Nat) (v7 v10 : Value) (wr : World) : Prop := ∃ (i T : Nat) (t : TS), v7 = .pointer (some ⟨T, 0, none⟩) ∧ v10 = .int .i64 i ∧ i ≤ L ∧ i ≤ 150 ∧ Pl (Fr.of w0) T R t t wr ∧ Ok t i
def PlC (f : Fr) (R i : Nat) (v7 v12 v13 : Value) (wr : World) : Prop := ∃ (T : Nat) (t : TS) (x : Int), v7 = .pointer (some ⟨T, 0, none⟩) ∧ v12 = .int .i64 x ∧ v13 = .int .i64 x ∧ Pl f T R t t wr ∧ Ok t (i + 1)
theorem Kp.cell {f : Fr} {w : World} (h : Kp f w) {p : Addr} (hp : f.Y p.block) : w.cell? p = f.w.cell? p := World.cell?_of_block (h.block p.block hp)
theorem Ok.more {t : TS} {k : Nat} (h : Ok t k) : Ok t (k + 1) := ⟨h.1, h.2.mono (by omega)⟩
set_option maxRecDepth 100000 in
set_option maxHeartbeats 8000000 in
theorem plays_calls (n h : Int) (A : Option Addr) (len cap : Nat) (zs : List (Int × Int × Int)) (w : World) (hlen : len = zs.length) (hA : RdA w A zs) (_ : len ≤ cap) (_ : cap ≤ 9223372036854775807) (hz : ∀ z ∈ zs, (0 ≤ z.1 ∧ z.1 ≤ 255) ∧ (Lit.int .i64 z.2.1).wf = true ∧ (Lit.int .i64 z.2.2).wf = true) :
    Calls Try.prog 10 #[.int .i64 n, .int .i64 h, .slice A len cap] w fun e w' => e = .returned (.bool true) ∧ Below w.heap.size w w' := by
  have CL : Hid (∀ w1, Calls Try.prog 14 #[] w1 fun e w' => e = .returned (.bool true) ∧ Below w1.heap.size w1 w') := fun w1 => lives_calls w1
  have HA := Lib.hid hA
  have HZ := Lib.hid hz
  have HL := Lib.hid hlen
  clear hA hz hlen
  by_cases hn : 1 ≤ n ∧ n ≤ 6
  · have C1 : Hid (∀ w1, Calls Try.prog 19 #[.int .i64 n, .int .i64 1, .int .i64 6] w1 fun e w' => e = .returned (.bool true) ∧ w1 = w') := fun w1 => by
      have := in_calls n 1 6 w1
      rwa [inB_yes hn] at this
    by_cases hh : 0 ≤ h ∧ h < n
    · obtain ⟨N, rfl⟩ : ∃ N : Nat, n = N := ⟨n.toNat, by omega⟩
      obtain ⟨H, rfl⟩ : ∃ H : Nat, h = H := ⟨h.toNat, by omega⟩
      have hN : 1 ≤ N ∧ N ≤ 6 := by omega
      have hH : H < N := by omega
      have C2 : Hid (∀ w1, Calls Try.prog 19 #[.int .i64 H, .int .i64 0, .int .i64 ((N : Int) - 1)] w1 fun e w' => e = .returned (.bool true) ∧ w1 = w') := fun w1 => by
        have := in_calls H 0 ((N : Int) - 1) w1
        rwa [inB_yes (by omega)] at this
      have wn : IntKind.i64.wrap ((N : Int) - 1) = (N : Int) - 1 := IntWalk.i64_in _ (by omega)
      have CT := Lib.hid (tw_new w hN hH)
      have CR : Hid (∀ T w1 X, Tw w1 T (TS.made N H) X → (∀ g, X g → w.heap.size ≤ g) → Below w.heap.size w w1 → Calls Try.prog 30 #[.int .i64 N, .int .i64 H] w1 fun e w' => ∃ R, e = .returned (.pointer (some ⟨R, 0, none⟩)) ∧ Pl (Fr.of w) T R (TS.made N H) (TS.made N H) w') := fun T w1 X h1 h2 h3 => by
        refine (refnew_low (h := H) w1 hN).mono ?_
        rintro e w' ⟨R, m, rfl, k1, k2, k3⟩
        exact ⟨R, rfl, pl_new w h1 h2 h3 R m k1 k2 k3⟩
      have HO : Hid (Ok (TS.made N H) 0) := Ok.made hN hH
      clear hn hh hN hH
      go_enter Try.func10, Try.ntmps10
      go_wp2_with fail
      refine (C1.out _).mono ?_
      rintro e w2 ⟨rfl, rfl⟩
      go_wp2_with fail
      refine (C2.out _).mono ?_
      rintro e w2 ⟨rfl, rfl⟩
      go_wp2_with fail
      refine CT.out.mono ?_
      rintro e w1 ⟨T, X, rfl, h1, h2, h3⟩
      have H1 := Lib.hid (CR.out T w1 X h1 h2 h3)
      clear h1 h2 h3 CT CR C1 C2 wn
      go_wp2_with fail
      refine H1.out.mono ?_
      rintro e w2 ⟨R, rfl, h2⟩
      have H2 := Lib.hid h2
      clear h2 H1
      go_wp2_with fail
      refine (CL.out _).mono ?_
      rintro e w4 ⟨rfl, hb⟩
      have H4 := Lib.hid (H2.out.below hb)
      clear hb H2 CL
      go_wp2_with fail
      go_loopw [7, 10, 11, 12, 13, 14, 15, 16, 17] (fun v7 v10 _ _ _ _ _ _ _ wr => PlI w R len v7 v10 wr) (fun _ v10 _ _ _ _ _ _ _ _ => len - (intOf v10).toNat)
      case atStart => exact ⟨0, T, TS.made N H, rfl, rfl, Nat.zero_le _, by omega, H4.out, HO.out⟩
      case round =>
        clear H4 HO
        obtain ⟨i, T1, t, rfl, rfl, hiL, hi150, hp, hO⟩ := hrel
        have HP := Lib.hid hp
        have HO := Lib.hid hO
        by_cases hcond : i < len ∧ i < 150
        · obtain ⟨hc1, hc2⟩ := hcond
          have hil : i < zs.length := by have := HL.out; omega
          obtain ⟨b, o, rfl, hb, hcell⟩ := HA.out.at i hil
          obtain ⟨z0, z1, z2, hzi⟩ : ∃ z0 z1 z2, zs[i] = (z0, z1, z2) := ⟨_, _, _, rfl⟩
          rw [hzi] at hcell
          obtain ⟨g0, g1, g2⟩ := hcell
          simp only at g0 g1 g2
          have hx0 := HZ.out zs[i] (List.getElem_mem hil)
          rw [hzi] at hx0
          simp only at hx0
          replace g0 := (hp.kp.cell (p := ⟨b, o + i * 3, none⟩) hb).trans g0
          replace g1 := (hp.kp.cell (p := ⟨b, o + i * 3 + 1, none⟩) hb).trans g1
          replace g2 := (hp.kp.cell (p := ⟨b, o + i * 3 + 2, none⟩) hb).trans g2
          have HX0 := Lib.hid hx0
          have zi : (0 : Int) ≤ (i : Int) ∧ (i : Int) < len := by omega
          clear hp hO hzi hx0 hil hb
          obtain ⟨Q, hQ⟩ : ∃ Q, Q = wr.heap.size := ⟨_, rfl⟩
          obtain ⟨W1, hW1⟩ : ∃ W1, W1 = wr.alloc (.cells #[.int .u8 z0, .int .i64 z1, .int .i64 z2] 54) := ⟨_, rfl⟩
          obtain ⟨f2, hf2, hfA, hp2, _, hback⟩ := HP.out.more (w' := W1) (A := Q) (by rw [hW1]; exact (Below.refl _ _).alloc (Nat.le_refl _) _) (by omega) (by rw [hW1, hQ]; simp)
          have hS : Hid (∀ w', Kp f2 w' → w'.cell? ⟨Q, 1, none⟩ = some (.int .i64 z1) ∧ w'.cell? ⟨Q, 2, none⟩ = some (.int .i64 z2) ∧ Kp f2 w') := fun w' h' => by
            rw [h'.cell (p := ⟨Q, 1, none⟩) hfA, h'.cell (p := ⟨Q, 2, none⟩) hfA, hf2, hW1, hQ]
            exact ⟨World.cell?_alloc_at _ _ _ _ rfl, World.cell?_alloc_at _ _ _ _ rfl, h'⟩
          have y0 : W1.cell? ⟨Q, 0, none⟩ = some (.int .u8 z0) := by rw [hW1, hQ]; exact World.cell?_alloc_at _ _ _ _ rfl
          have HB := Lib.hid hback
          have H2 := Lib.hid hp2
          have hQ2 := Lib.hid hQ
          have hW2 := Lib.hid hW1
          clear hQ hW1 hp2 hback hf2 hfA
          go_upto_block 2 with fail
          have hW1 := hW2.out
          have hQ := hQ2.out
          rw [← hW1, ← hQ]
          clear hW1 hQ hQ2 hW2 g0 g1 g2
          go_cut [7, 12, 13, 14, 15] from 48 to 161 (fun v7 v12 v13 _ _ wx => PlC f2 R i v7 v12 v13 wx)
          case first =>
            have hO := HO.out
            have h5 : z0.tmod 5 = 0 ∨ z0.tmod 5 = 1 ∨ z0.tmod 5 = 2 ∨ z0.tmod 5 = 3 ∨ z0.tmod 5 = 4 := by
              have := HX0.out.1
              rw [Int.tmod_eq_emod_of_nonneg this.1]
              omega
            rcases h5 with h5 | h5 | h5 | h5 | h5
            · have C1 : Hid (∀ w1, Pl f2 T1 R t t w1 → Calls Try.prog 32 #[.pointer (some ⟨T1, 0, none⟩), .int .i64 z1] w1 fun e w' => e = .returned (.int .i64 (t.wantE z1)) ∧ Pl f2 T1 R (t.want z1) t w') := fun w1 h1 => pl_want h1 hO (by omega) z1
              have C2 : Hid (∀ w1, Pl f2 T1 R (t.want z1) t w1 → Calls Try.prog 33 #[.pointer (some ⟨R, 0, none⟩), .int .i64 z1] w1 fun e w' => e = .returned (.int .i64 (t.wantE z1)) ∧ Pl f2 T1 R (t.want z1) (t.want z1) w') := fun w1 h1 => pl_rwant h1 hO (by omega) z1
              have O2 := Lib.hid (hO.want z1)
              clear hO HO
              go_wp2_with fail
              go_region_held3 (fun w' => w'.cell? ⟨Q, 1, none⟩ = some (.int .i64 z1) ∧ w'.cell? ⟨Q, 2, none⟩ = some (.int .i64 z2) ∧ Kp f2 w')
                ((first | exact hS.out _ H2.out.drew.kp | exact hS.out _ (Pl.kp (by assumption)) | exact hS.out _ (Pl.drew (by assumption)).kp))
                ((first
                  | (go_at_call 32; (with_reducible refine (C1.out _ (by first | assumption | exact H2.out.drew | exact Pl.drew (by assumption))).mono ?_); rintro e wa ⟨rfl, hwa⟩)
                  | (go_at_call 33; (with_reducible refine (C2.out _ (by first | assumption | exact H2.out.drew | exact Pl.drew (by assumption))).mono ?_); rintro e wb ⟨rfl, hwb⟩)))
              go_wp2_with fail
              go_meet
              case rel => exact ⟨T1, t.want z1, t.wantE z1, rfl, rfl, rfl, by first | assumption | exact Pl.drew (by assumption), O2.out⟩
            · have C1 : Hid (∀ w1, Pl f2 T1 R t t w1 → Calls Try.prog 34 #[.pointer (some ⟨T1, 0, none⟩), .int .i64 z1] w1 fun e w' => e = .returned (.int .i64 (t.leaveE z1)) ∧ Pl f2 T1 R (t.leaveI z1) t w') := fun w1 h1 => pl_leave h1 hO (by omega) z1
              have C2 : Hid (∀ w1, Pl f2 T1 R (t.leaveI z1) t w1 → Calls Try.prog 35 #[.pointer (some ⟨R, 0, none⟩), .int .i64 z1] w1 fun e w' => e = .returned (.int .i64 (t.leaveE z1)) ∧ Pl f2 T1 R (t.leaveI z1) (t.leaveI z1) w') := fun w1 h1 => pl_rleave h1 hO (by omega) z1
              have O2 := Lib.hid (hO.leave z1)
              clear hO HO
              go_wp2_with fail
              go_region_held3 (fun w' => w'.cell? ⟨Q, 1, none⟩ = some (.int .i64 z1) ∧ w'.cell? ⟨Q, 2, none⟩ = some (.int .i64 z2) ∧ Kp f2 w')
                ((first | exact hS.out _ H2.out.drew.kp | exact hS.out _ (Pl.kp (by assumption)) | exact hS.out _ (Pl.drew (by assumption)).kp))
                ((first
                  | (go_at_call 34; (with_reducible refine (C1.out _ (by first | assumption | exact H2.out.drew | exact Pl.drew (by assumption))).mono ?_); rintro e wa ⟨rfl, hwa⟩)
                  | (go_at_call 35; (with_reducible refine (C2.out _ (by first | assumption | exact H2.out.drew | exact Pl.drew (by assumption))).mono ?_); rintro e wb ⟨rfl, hwb⟩)))
              go_wp2_with fail
              go_meet
              case rel => exact ⟨T1, t.leaveI z1, t.leaveE z1, rfl, rfl, rfl, by first | assumption | exact Pl.drew (by assumption), O2.out⟩
            · have CA : Hid (∀ w1, Pl f2 T1 R t t w1 → Calls Try.prog 36 #[.pointer (some ⟨R, 0, none⟩)] w1 fun e w' => ∃ A c, e = .returned (.slice A t.cals.length c) ∧ (t.cals.length ≤ c ∧ RdC w' A t.cals) ∧ Pl f2 T1 R t t w') := fun w1 h1 => by
                refine (pl_calls h1 hO (by omega)).mono ?_
                rintro e w' ⟨v, rfl, ho, hb⟩
                obtain ⟨A, c, rfl, k1, _, _, k2, _⟩ := ho.rd
                exact ⟨A, c, rfl, ⟨k1, k2⟩, h1.below hb⟩
              have HLE : Hid (t.cals.length ≤ 80000) := by
                show t.cals.length ≤ 80000
                rw [cals_len]
                have := hO.2.tt
                have := hO.2.s0
                omega
              have O2 := Lib.hid hO.more
              obtain ⟨K, hK⟩ : ∃ K, K = t.cals.length := ⟨_, rfl⟩
              rw [← hK] at CA HLE
              have HK := Lib.hid hK
              clear hO hK
              go_wp2_with fail
              refine (CA.out _ H2.out).mono ?_
              rintro e w3 ⟨A, c, rfl, ⟨k1, k2⟩, h3⟩
              have H3 := Lib.hid h3
              have K2 := Lib.hid k2
              obtain ⟨s1, s2, _⟩ := hS.out _ h3.kp
              clear CA h3 k2 H2 s2
              by_cases hK0 : K = 0
              · subst hK0
                go_wp2_with fail
                go_meet
                case rel => exact ⟨T1, t, 0, rfl, rfl, rfl, H3.out, O2.out⟩
              · have hKp : 0 < K := by omega
                have dK : decide (0 < K) = true := decide_eq_true hKp
                obtain ⟨u, hu, hu0⟩ : ∃ u, u = IntKind.u64.wrap z1 ∧ 0 ≤ u := ⟨_, rfl, by simp [IntKind.wrap, IntKind.signed, IntKind.bits]; omega⟩
                obtain ⟨q, hq⟩ : ∃ q : Nat, u.tmod (K : Int) = q := ⟨(u.tmod (K : Int)).toNat, by rw [Int.tmod_eq_emod_of_nonneg hu0]; have := Int.emod_nonneg u (show (K : Int) ≠ 0 by omega); omega⟩
                have hqK : q < K := by
                  have h1 := Int.emod_lt_of_pos u (show (0 : Int) < K by omega)
                  rw [Int.tmod_eq_emod_of_nonneg hu0] at hq
                  omega
                have zq : (0 : Int) ≤ (q : Int) ∧ (q : Int) < (K : Int) := by omega
                have hKz : ¬ ((K : Int) = 0) := by omega
                have hK8 : (K : Int) ≤ 80000 := by have := HLE.out; omega
                have hk : IntKind.u64.wrap (K : Int) = K := by simp [IntKind.wrap, IntKind.signed, IntKind.bits]; omega
                obtain ⟨ca, cb, cm, hcc⟩ : ∃ ca cb cm, t.cals[q]'(by rw [← HK.out]; exact hqK) = (ca, cb, cm) := ⟨_, _, _, rfl⟩
                obtain ⟨g, o2, rfl, hgl, e0, e1, e2, e3⟩ := K2.out.at q (by rw [← HK.out]; exact hqK)
                rw [hcc] at e0 e1 e2 e3
                simp only at e0 e1 e2 e3
                obtain ⟨tk, htk⟩ : ∃ tk, tk = cm.isTok := ⟨_, rfl⟩
                obtain ⟨no, hno2⟩ : ∃ no, no = cm.num := ⟨_, rfl⟩
                rw [← htk] at e2
                rw [← hno2] at e3
                rw [hu] at hq
                clear htk hno2 hcc hu hu0
                obtain ⟨Q5, hQ5⟩ : ∃ Q5, Q5 = w3.heap.size := ⟨_, rfl⟩
                obtain ⟨W5, hW5⟩ : ∃ W5, W5 = w3.alloc (.cells #[.int .i64 ca, .int .i64 cb, .bool tk, .int .i64 no] 32) := ⟨_, rfl⟩
                obtain ⟨f5, hf5, hfA5, hp5, _, hback5⟩ := H3.out.more (w' := W5) (A := Q5) (by rw [hW5]; exact (Below.refl _ _).alloc (Nat.le_refl _) _) (by omega) (by rw [hW5, hQ5]; simp)
                have hS5 : Hid (∀ w', Kp f5 w' → w'.cell? ⟨Q5, 0, none⟩ = some (.int .i64 ca) ∧ w'.cell? ⟨Q5, 1, none⟩ = some (.int .i64 cb) ∧ Kp f5 w') := fun w' h' => by
                  rw [h'.cell (p := ⟨Q5, 0, none⟩) hfA5, h'.cell (p := ⟨Q5, 1, none⟩) hfA5, hf5, hW5, hQ5]
                  exact ⟨World.cell?_alloc_at _ _ _ _ rfl, World.cell?_alloc_at _ _ _ _ rfl, h'⟩
                have HB5 := Lib.hid hback5
                have H5 := Lib.hid hp5
                have hQ6 := Lib.hid hQ5
                have hW6 := Lib.hid hW5
                have hO := HO.out
                have C1 : Hid (∀ w1, Pl f5 T1 R t t w1 → Calls Try.prog 37 #[.pointer (some ⟨T1, 0, none⟩), .int .i64 ca, .int .i64 cb] w1 fun e w' => e = .returned (.int .i64 (t.delE ca cb)) ∧ Pl f5 T1 R (t.delI ca cb) t w') := fun w1 h1 => pl_deliver h1 hO (by omega) ca cb
                have C2 : Hid (∀ w1, Pl f5 T1 R (t.delI ca cb) t w1 → Calls Try.prog 38 #[.pointer (some ⟨R, 0, none⟩), .int .i64 ca, .int .i64 cb] w1 fun e w' => e = .returned (.int .i64 (t.delE ca cb)) ∧ Pl f5 T1 R (t.delI ca cb) (t.delI ca cb) w') := fun w1 h1 => pl_rdeliver h1 hO (by omega) ca cb
                have O3 := Lib.hid (hO.deliver ca cb)
                clear hQ5 hW5 hp5 hback5 hf5 hfA5 hO
                go_upto_region 22 with fail
                have hW5 := hW6.out
                have hQ5 := hQ6.out
                rw [← hW5, ← hQ5]
                clear hW5 hQ5 hQ6 hW6 e0 e1 e2 e3 s1 hq hk
                go_region_held3 (fun w' => w'.cell? ⟨Q5, 0, none⟩ = some (.int .i64 ca) ∧ w'.cell? ⟨Q5, 1, none⟩ = some (.int .i64 cb) ∧ Kp f5 w')
                  ((first | exact hS5.out _ H5.out.drew.kp | exact hS5.out _ (Pl.kp (by assumption)) | exact hS5.out _ (Pl.drew (by assumption)).kp))
                  ((first
                    | (go_at_call 37; (with_reducible refine (C1.out _ (by first | assumption | exact H5.out.drew | exact Pl.drew (by assumption))).mono ?_); rintro e wa ⟨rfl, hwa⟩)
                    | (go_at_call 38; (with_reducible refine (C2.out _ (by first | assumption | exact H5.out.drew | exact Pl.drew (by assumption))).mono ?_); rintro e wb ⟨rfl, hwb⟩)))
                go_wp2_with fail
                go_meet
                case rel => exact ⟨T1, t.delI ca cb, t.delE ca cb, rfl, rfl, rfl, HB5.out _ _ _ _ (by first | assumption | exact Pl.drew (by assumption)), O3.out⟩
            · have CC : Hid (∀ w1, Pl f2 T1 R t t w1 → Calls Try.prog 31 #[.pointer (some ⟨T1, 0, none⟩)] w1 fun e w' => ∃ T2, e = .returned (.pointer (some ⟨T2, 0, none⟩)) ∧ Pl f2 T2 R t t w') := fun w1 h1 => pl_clone h1 hO (by omega)
              have O2 := Lib.hid hO.more
              clear hO
              go_wp2_with fail
              refine (CC.out _ H2.out).mono ?_
              rintro e w3 ⟨T3, rfl, h3⟩
              have H3 := Lib.hid h3
              clear h3 CC
              go_wp2_with fail
              go_meet
              case rel => exact ⟨T3, t, 0, rfl, rfl, rfl, H3.out, O2.out⟩
            · have C1 : Hid (∀ w1, Pl f2 T1 R t t w1 → Calls Try.prog 37 #[.pointer (some ⟨T1, 0, none⟩), .int .i64 z1, .int .i64 z2] w1 fun e w' => e = .returned (.int .i64 (t.delE z1 z2)) ∧ Pl f2 T1 R (t.delI z1 z2) t w') := fun w1 h1 => pl_deliver h1 hO (by omega) z1 z2
              have C2 : Hid (∀ w1, Pl f2 T1 R (t.delI z1 z2) t w1 → Calls Try.prog 38 #[.pointer (some ⟨R, 0, none⟩), .int .i64 z1, .int .i64 z2] w1 fun e w' => e = .returned (.int .i64 (t.delE z1 z2)) ∧ Pl f2 T1 R (t.delI z1 z2) (t.delI z1 z2) w') := fun w1 h1 => pl_rdeliver h1 hO (by omega) z1 z2
              have O2 := Lib.hid (hO.deliver z1 z2)
              clear hO HO
              go_wp2_with fail
              go_region_held3 (fun w' => w'.cell? ⟨Q, 1, none⟩ = some (.int .i64 z1) ∧ w'.cell? ⟨Q, 2, none⟩ = some (.int .i64 z2) ∧ Kp f2 w')
                ((first | exact hS.out _ H2.out.drew.kp | exact hS.out _ (Pl.kp (by assumption)) | exact hS.out _ (Pl.drew (by assumption)).kp))
                ((first
                  | (go_at_call 37; (with_reducible refine (C1.out _ (by first | assumption | exact H2.out.drew | exact Pl.drew (by assumption))).mono ?_); rintro e wa ⟨rfl, hwa⟩)
                  | (go_at_call 38; (with_reducible refine (C2.out _ (by first | assumption | exact H2.out.drew | exact Pl.drew (by assumption))).mono ?_); rintro e wb ⟨rfl, hwb⟩)))
              go_wp2_with fail
              go_meet
              case rel => exact ⟨T1, t.delI z1 z2, t.delE z1 z2, rfl, rfl, rfl, by first | assumption | exact Pl.drew (by assumption), O2.out⟩
          case rest =>
            obtain ⟨T2, t2, x, rfl, rfl, rfl, hp3, hO3⟩ := hcut
            rename World => w5
            have HO3 := Lib.hid hO3
            have H5 := Lib.hid (HB.out _ _ _ _ hp3)
            have CM : Hid (∀ w1, Pl (Fr.of w) T2 R t2 t2 w1 → Calls Try.prog 29 #[.pointer (some ⟨T2, 0, none⟩), .pointer (some ⟨R, 0, none⟩)] w1 fun e w' => e = .returned (.bool true) ∧ Pl (Fr.of w) T2 R t2 t2 w') := fun w1 h1 => (pl_same h1 hO3 (by omega)).mono fun _ _ ⟨he, hb⟩ => ⟨he, h1.below hb⟩
            have CV : Hid (∀ w1, Pl (Fr.of w) T2 R t2 t2 w1 → Calls Try.prog 25 #[.pointer (some ⟨T2, 0, none⟩)] w1 fun e w' => ∃ g c y, e = .returned (.slice (some ⟨g, 0, none⟩) t2.served.length c) ∧ (w'.cell? ⟨g, 0, none⟩ = some (.int .i64 y) ∧ w'.frozen? ⟨g, 0, none⟩ = false ∧ 0 < t2.served.length ∧ t2.served.length ≤ c) ∧ ∀ u, Pl (Fr.of w) T2 R t2 t2 (w'.setCell ⟨g, 0, none⟩ u)) := fun w1 h1 => by
              refine (pl_served h1 hO3).mono ?_
              rintro e w' ⟨v, rfl, ho, hb⟩
              have hn := hO3.1.hn
              obtain ⟨g, c, y, rfl, k1, k2, k3, k4, k5⟩ := ow_poke ho (by intro e; have := hO3.1.ls; rw [e] at this; simp at this; omega)
              exact ⟨g, c, y, rfl, ⟨k1, k2, k3, k4⟩, fun u => h1.below (hb.trans (k5 u))⟩
            have CK : Hid (∀ w1, Pl (Fr.of w) T2 R t2 t2 w1 → Calls Try.prog 26 #[.pointer (some ⟨T2, 0, none⟩), .int .i64 0] w1 fun e w' => ∃ g c y m, e = .returned (.slice (some ⟨g, 0, none⟩) m c) ∧ (w'.cell? ⟨g, 0, none⟩ = some (.int .i64 y) ∧ w'.frozen? ⟨g, 0, none⟩ = false ∧ 0 < m ∧ m ≤ c) ∧ ∀ u, Pl (Fr.of w) T2 R t2 t2 (w'.setCell ⟨g, 0, none⟩ u)) := fun w1 h1 => by
              refine (pl_known h1 0).mono ?_
              rintro e w' ⟨v, rfl, ho, hb⟩
              have hn := hO3.1.hn
              obtain ⟨g, c, y, rfl, k1, k2, k3, k4, k5⟩ := ow_poke ho (by
                intro e
                unfold TS.kno at e
                have h0 : thereB t2.n 0 = true := thereB_nat (n := t2.n) (i := 0) (by omega)
                rw [if_pos h0] at e
                have := hO3.1.lki 0 (by omega)
                rw [show ((0 : Int).toNat) = 0 from rfl] at e
                rw [e] at this
                simp at this
                omega)
              exact ⟨g, c, y, _, rfl, ⟨k1, k2, k3, k4⟩, fun u => h1.below (hb.trans (k5 u))⟩
            obtain ⟨M, hM⟩ : ∃ M, M = t2.served.length := ⟨_, rfl⟩
            rw [← hM] at CV
            clear hp3 hO3 hM HB H2 hS y0
            go_wp2_with fail
            refine (CM.out _ H5.out).mono ?_
            rintro e w6 ⟨rfl, h6⟩
            have H6 := Lib.hid h6
            clear h6 H5
            go_wp2_with fail
            refine (CV.out _ H6.out).mono ?_
            rintro e w7 ⟨g, c, y, rfl, ⟨q1, q2, q3, q4⟩, h7⟩
            have H7 := Lib.hid h7
            have dM : decide (0 < M) = true := decide_eq_true q3
            have zM : (0 : Int) ≤ 0 ∧ (0 : Int) < (M : Int) := by omega
            clear h7 H6 CM CV q3
            go_wp2_with fail
            refine (CK.out _ (H7.out _)).mono ?_
            rintro e w8 ⟨g2, c2, y2, M2, rfl, ⟨r1, r2, r3, r4⟩, h8⟩
            have H8 := Lib.hid h8
            have dM2 : decide (0 < M2) = true := decide_eq_true r3
            have zM2 : (0 : Int) ≤ 0 ∧ (0 : Int) < (M2 : Int) := by omega
            clear h8 CK q1 q2 H7 r3
            go_wp2_with fail
            go_roundw
            case rel => exact ⟨i + 1, T2, t2, rfl, by go_num, hc1, hc2, H8.out _, HO3.out⟩
            case measure => simp [intOf]; omega
        · have CM : Hid (∀ w1, Pl (Fr.of w) T1 R t t w1 → Calls Try.prog 29 #[.pointer (some ⟨T1, 0, none⟩), .pointer (some ⟨R, 0, none⟩)] w1 fun e w' => e = .returned (.bool true) ∧ Pl (Fr.of w) T1 R t t w') := fun w1 h1 => (pl_same h1 hO (by omega)).mono fun _ _ ⟨he, hb⟩ => ⟨he, h1.below hb⟩
          clear hp hO
          by_cases hc1 : i < len
          · have hc2 : ¬ i < 150 := fun e => hcond ⟨hc1, e⟩
            clear hcond
            go_wp2_with fail
            refine (CM.out _ HP.out).mono ?_
            rintro e w6 ⟨rfl, h6⟩
            have H6 := Lib.hid h6.kp
            clear h6
            go_wp2_with fail
            go_ret
            exact ⟨rfl, H6.out.os, H6.out.tape, H6.out.output, H6.out.size, H6.out.block⟩
          · clear hcond
            go_wp2_with fail
            refine (CM.out _ HP.out).mono ?_
            rintro e w6 ⟨rfl, h6⟩
            have H6 := Lib.hid h6.kp
            clear h6
            go_wp2_with fail
            go_ret
            exact ⟨rfl, H6.out.os, H6.out.tape, H6.out.output, H6.out.size, H6.out.block⟩
    · have C2 : Hid (∀ w1, Calls Try.prog 19 #[.int .i64 h, .int .i64 0, .int .i64 (n - 1)] w1 fun e w' => e = .returned (.bool false) ∧ w1 = w') := fun w1 => by
        have := in_calls h 0 (n - 1) w1
        rwa [inB_no (by omega)] at this
      have wn : IntKind.i64.wrap (n - 1) = n - 1 := IntWalk.i64_in _ (by omega)
      clear hn hh
      go_enter Try.func10, Try.ntmps10
      go_wp2_with fail
      refine (C1.out _).mono ?_
      rintro e w2 ⟨rfl, rfl⟩
      go_wp2_with fail
      refine (C2.out _).mono ?_
      rintro e w2 ⟨rfl, rfl⟩
      go_wp2_with fail
      refine (CL.out _).mono ?_
      rintro e w4 ⟨rfl, hb⟩
      have H4 := Lib.hid hb
      clear hb
      go_wp2_with fail
      go_ret
      exact ⟨rfl, H4.out⟩
  · have C1 : Hid (∀ w1, Calls Try.prog 19 #[.int .i64 n, .int .i64 1, .int .i64 6] w1 fun e w' => e = .returned (.bool false) ∧ w1 = w') := fun w1 => by
      have := in_calls n 1 6 w1
      rwa [inB_no hn] at this
    clear hn
    go_enter Try.func10, Try.ntmps10
    go_wp2_with fail
    refine (C1.out _).mono ?_
    rintro e w2 ⟨rfl, rfl⟩
    go_wp2_with fail
    refine (CL.out _).mono ?_
    rintro e w4 ⟨rfl, hb⟩
    have H4 := Lib.hid hb
    clear hb
    go_wp2_with fail
    go_ret
    exact ⟨rfl, H4.out⟩
end Go.Proofs.Ytahjgdikjaakbaa
