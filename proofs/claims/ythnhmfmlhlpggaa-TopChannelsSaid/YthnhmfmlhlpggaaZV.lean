/- What is proved: stable, SortStableFunc, the numbers below one, the comparison by From. No condition beyond those in each statement. -/
import Derived.Test.YthnhmfmlhlpggaaZU
namespace Go.Proofs.Ythnhmfmlhlpggaa
open Go.RowKit
set_option maxRecDepth 100000

def StA (w0 : World) (base g c n : Nat) (xs : List Int) (f : Int → Int) (v u : Value) (wr : World) : Prop :=
  ∃ (a : Nat) (ys : List Int), v = .int .i64 a ∧ u = .int .i64 ((a : Int) + 20) ∧ (a = 0 ∨ a = 20) ∧ a ≤ n ∧ Hid (Ris f ys 0 a) ∧ Hid (Rear 0 n xs ys) ∧ Hid (SA w0 base g c ys wr)
def StB (w0 : World) (base g c n : Nat) (xs : List Int) (f : Int → Int) (v : Value) (wr : World) : Prop :=
  ∃ ys : List Int, ((v = .int .i64 20 ∧ Hid ((n ≤ 20 → Ris f ys 0 n) ∧ (20 < n → Ris f ys 0 20 ∧ Ris f ys 20 n))) ∨ (v = .int .i64 40 ∧ Hid (Ris f ys 0 n))) ∧ Hid (Rear 0 n xs ys) ∧ Hid (SA w0 base g c ys wr)

set_option maxHeartbeats 4000000 in
theorem stable_calls (w0 : World) (base g c n : Nat) (caps : Array Value) (f : Int → Int) (V : Int → Prop) (hE : SEnv w0 base caps f V) (hx : n < 40) (xs : List Int) (w : World) (hV : AllV V xs) (hA : SA w0 base g c xs w) (hn : n = xs.length) :
    Calls Try.prog 100 #[.slice (some ⟨g, 0, none⟩) n c, .int .i64 n, .func (.func 59) #[] caps] w fun e w' => e = .returned (.tuple #[]) ∧ ∃ ys, Ris f ys 0 n ∧ Rear 0 n xs ys ∧ SA w0 base g c ys w' := by
  have HE := Lib.hid hE
  have HV := Lib.hid hV
  have HA := Lib.hid hA
  have HN := Lib.hid hn
  clear hE hV hA hn
  go_enter Try.func100, Try.ntmps100
  go_wp2_with fail
  go_loopw [7, 8] (StA w0 base g c n xs f) (fun v _ _ => n - (intOf v).toNat)
  case atStart => exact ⟨0, xs, rfl, rfl, .inl rfl, Nat.zero_le _, ris_short _ _ (by omega), Rear.refl _ _ _, HA.out⟩
  case round =>
    obtain ⟨a, ys, rfl, rfl, ha, han, HRI, HR, HSA⟩ := hrel
    have hyl : n = ys.length := by rw [HR.out.len]; exact HN.out
    have HYL := Lib.hid hyl
    have HVY := Lib.hid (HV.out.rear HR.out)
    clear hyl
    by_cases h20 : a + 20 ≤ n
    · have CP := Lib.hid (insertion_calls w0 base g c n ys a (a + 20) caps f V HE.out HVY.out wr HSA.out HYL.out (by omega) (by omega) h20)
      rw [show ((a + 20 : Nat) : Int) = (a : Int) + 20 by omega] at CP
      have ha0 : a = 0 := by omega
      subst ha0
      have t1 : decide ((0 : Int) + 20 ≤ (n : Int)) = true := decide_eq_true (by omega)
      go_wp2_with fail
      refine CP.out.mono ?_
      rintro e w1 ⟨rfl, zs, hz, hr, hsa⟩
      have HZ := Lib.hid hz
      have HR2 := Lib.hid (HR.out.trans (hr.widen (Nat.zero_le _) (by omega)))
      have HSA2 := Lib.hid hsa
      clear hz hr hsa
      go_wp2_with fail
      go_roundw
      case rel => exact ⟨20, zs, rfl, rfl, .inr rfl, by omega, HZ.out, HR2.out, HSA2.out⟩
      case measure => simp [intOf]; omega
    · have CP := Lib.hid (insertion_calls w0 base g c n ys a n caps f V HE.out HVY.out wr HSA.out HYL.out (by omega) han (Nat.le_refl _))
      have t1 : decide ((a : Int) + 20 ≤ (n : Int)) = false := decide_eq_false (by omega)
      go_wp2_with fail
      refine CP.out.mono ?_
      rintro e w1 ⟨rfl, zs, hz, hr, hsa⟩
      have HZ : Hid ((n ≤ 20 → Ris f zs 0 n) ∧ (20 < n → Ris f zs 0 20 ∧ Ris f zs 20 n)) := by
        refine ⟨fun h => ?_, fun h => ?_⟩
        · by_cases e0 : a = 0
          · subst e0; exact hz
          · have : a = n := by omega
            subst this
            exact HRI.out.keep hr (.inl (Nat.le_refl _))
        · have : a = 20 := by omega
          subst this
          exact ⟨HRI.out.keep hr (.inl (Nat.le_refl _)), hz⟩
      have HR2 := Lib.hid (HR.out.trans (hr.widen (Nat.zero_le _) (Nat.le_refl _)))
      have HSA2 := Lib.hid hsa
      clear hz hr hsa
      go_wp2_with fail
      go_loopw [6] (StB w0 base g c n xs f) (fun v _ => 40 - (intOf v).toNat)
      case atStart => exact ⟨zs, .inl ⟨rfl, HZ⟩, HR2.out, HSA2.out⟩
      case round =>
        obtain ⟨vs, hv, HR3, HSA3⟩ := hrel
        rcases hv with ⟨rfl, HP⟩ | ⟨rfl, HP⟩
        · by_cases h21 : 20 < n
          · have t2 : decide ((20 : Int) < (n : Int)) = true := decide_eq_true (by omega)
            have t3 : decide ((40 : Int) ≤ (n : Int)) = false := decide_eq_false (by omega)
            have hyl : n = vs.length := by rw [HR3.out.len]; exact HN.out
            have HVV := Lib.hid (HV.out.rear HR3.out)
            have CP2 := Lib.hid (symMerge_calls w0 base g c n caps f V HE.out (by omega) n vs 0 20 n wr (by omega) HVV.out HSA3.out hyl (by omega) h21 (Nat.le_refl _) (HP.out.2 h21).1 (HP.out.2 h21).2)
            clear hyl
            obtain ⟨W2, hW2⟩ : ∃ q, q = wr := ⟨_, rfl⟩
            rw [← hW2] at HSA3 CP2 ⊢
            clear hW2
            go_wp2_with fail
            go_loopw [7, 8] (fun v u wq => v = .int .i64 0 ∧ u = .int .i64 40 ∧ W2 = wq) (fun _ _ _ => 0)
            case atStart => exact ⟨rfl, rfl, rfl⟩
            case round =>
              obtain ⟨rfl, rfl, rfl⟩ := hrel
              go_wp2_with fail
              refine CP2.out.mono ?_
              rintro e w1 ⟨rfl, us, hu, hr, hsa⟩
              have HP2 := Lib.hid hu
              have HR4 := Lib.hid (HR3.out.trans hr)
              have HSA4 := Lib.hid hsa
              clear hu hr hsa
              go_wp2_with fail
              go_roundw
              case rel => exact ⟨us, .inr ⟨by go_num, HP2⟩, HR4.out, HSA4.out⟩
              case measure => simp [intOf]
          · have HP2 := Lib.hid (HP.out.1 (by omega))
            have t2 : decide ((20 : Int) < (n : Int)) = false := decide_eq_false (by omega)
            go_wp2_with fail
            go_end0
            exact ⟨rfl, vs, HP2.out, HR3.out, HSA3.out⟩
        · have t2 : decide ((40 : Int) < (n : Int)) = false := decide_eq_false (by omega)
          go_wp2_with fail
          go_end0
          exact ⟨rfl, vs, HP.out, HR3.out, HSA3.out⟩

set_option maxHeartbeats 400000 in
theorem sortStable_calls (w0 : World) (base g c n : Nat) (caps : Array Value) (f : Int → Int) (V : Int → Prop) (hE : SEnv w0 base caps f V) (hx : n < 40) (xs : List Int) (w : World) (hV : AllV V xs) (hA : SA w0 base g c xs w) (hn : n = xs.length) :
    Calls Try.prog 58 #[.slice (some ⟨g, 0, none⟩) n c, .func (.func 59) #[] caps] w fun e w' => e = .returned (.tuple #[]) ∧ ∃ ys, Ris f ys 0 n ∧ Rear 0 n xs ys ∧ SA w0 base g c ys w' := by
  have CP := Lib.hid (stable_calls w0 base g c n caps f V hE hx xs w hV hA hn)
  clear hE hV hA hn
  go_enter Try.func58, Try.ntmps58
  go_wp2_with fail
  refine CP.out.mono ?_
  rintro e w1 ⟨rfl, ys, h1, h2, h3⟩
  have H1 := Lib.hid h1
  have H2 := Lib.hid h2
  have H3 := Lib.hid h3
  clear h1 h2 h3
  go_wp2_with fail
  go_end0
  exact ⟨rfl, ys, H1.out, H2.out, H3.out⟩

/-- The comparison by From. -/
def fromK (es : List (Int × Int)) (v : Int) : Int := (es.getD v.toNat (0, 0)).1
set_option maxHeartbeats 400000 in
theorem cmp59_calls (bs : Nat) (A : Option Addr) (n c : Nat) (es : List (Int × Int)) (u v : Int) (w : World) (hn : n = es.length) (hA : RdE w A es) (hc : w.cell? ⟨bs, 0, none⟩ = some (.slice A n c)) (hb : ∀ e ∈ es, 0 ≤ e.1 ∧ e.1 ≤ 1000)
    (hu : 0 ≤ u ∧ u < n) (hv : 0 ≤ v ∧ v < n) :
    Calls Try.prog 59 #[.int .i64 u, .int .i64 v, .pointer (some ⟨bs, 0, none⟩)] w fun e w' => e = .returned (.int .i64 (fromK es u - fromK es v)) ∧ Below w.heap.size w w' := by
  obtain ⟨i, rfl⟩ := Int.eq_ofNat_of_zero_le hu.1
  obtain ⟨j, rfl⟩ := Int.eq_ofNat_of_zero_le hv.1
  have hi : i < es.length := by omega
  have hj : j < es.length := by omega
  obtain ⟨b, o, rfl, hlt, d1, -⟩ := hA.at i hi
  obtain ⟨b', o', e, -, d2, -⟩ := hA.at j hj
  cases e
  have f1 : fromK es (i : Nat) = es[i].1 := by unfold fromK; rw [Int.toNat_natCast, List.getD_eq_getElem?_getD, List.getElem?_eq_getElem hi]; rfl
  have f2 : fromK es (j : Nat) = es[j].1 := by unfold fromK; rw [Int.toNat_natCast, List.getD_eq_getElem?_getD, List.getElem?_eq_getElem hj]; rfl
  have b1 := hb _ (List.getElem_mem hi)
  have b2 := hb _ (List.getElem_mem hj)
  rw [← f1] at b1 d1
  rw [← f2] at b2 d2
  generalize fromK es (i : Nat) = x at *
  generalize fromK es (j : Nat) = y at *
  obtain ⟨x0, x1⟩ := b1
  obtain ⟨y0, y1⟩ := b2
  have i0 : (0 : Int) ≤ (i : Int) := by omega
  have i1 : (i : Int) < (n : Int) := by omega
  have j0 : (0 : Int) ≤ (j : Int) := by omega
  have j1 : (j : Int) < (n : Int) := by omega
  have w1 : IntKind.i64.wrap (x - y) = x - y := IntWalk.i64_in _ (by omega)
  clear f1 f2 hi hj hA hb hn hu hv
  go_enter Try.func59, Try.ntmps59
  go_wp2_with fail
  go_quiet (fail)
  go_wp2_with fail
  go_ret
  exact ⟨rfl, below_drewN (Below.refl _ _) _⟩

def BwI (w : World) (g n : Nat) (v : Value) (wr : World) : Prop := ∃ k : Nat, v = .int .i64 k ∧ k ≤ n ∧ Hid (Arr wr w.heap.size g n ((List.range n).map fun j : Nat => if j < k then (j : Int) else 0)) ∧ Hid (Below w.heap.size w wr)
set_option maxHeartbeats 2000000 in
theorem below_calls (n : Nat) (hn : n ≤ 1000) (w : World) :
    Calls Try.prog 57 #[.int .i64 n] w fun e w' => e = .returned (.slice (some ⟨w.heap.size, 0, none⟩) n n) ∧ Arr w' w.heap.size w.heap.size n (idn n) ∧ Below w.heap.size w w' := by
  obtain ⟨w3, hmk, harr, hb3⟩ := arr_made n hn w
  have HARR := Lib.hid harr
  have HB3 := Lib.hid hb3
  clear harr hb3
  go_enter Try.func57, Try.ntmps57
  go_wp2_with fail
  go_loopw [9] (BwI w w.heap.size n) (fun v _ => n - (intOf v).toNat)
  case atStart => exact ⟨0, rfl, Nat.zero_le _, by rw [fill_zero]; exact HARR.out, HB3.out⟩
  case round =>
    obtain ⟨k, rfl, hk, HA, HB⟩ := hrel
    by_cases hlt : k < n
    · have hl : k < ((List.range n).map fun j : Nat => if j < k then (j : Int) else 0).length := by simpa using hlt
      have c1 := HA.out.at k hl
      have f1 := HA.out.free k
      have HS := Lib.hid (HA.out.set k (k : Int))
      rw [fill_step hlt] at HS
      generalize ((List.range n).map fun j : Nat => if j < k then (j : Int) else 0)[k]'hl = old at c1
      clear hl
      have i0 : (0 : Int) ≤ (k : Int) := by omega
      have i1 : (k : Int) < (n : Int) := by omega
      go_wp2_with fail
      go_roundw
      case rel => exact ⟨k + 1, by go_num, by omega, HS.out.1, HB.out.trans HS.out.2⟩
      case measure => simp [intOf]; omega
    · obtain rfl : k = n := by omega
      have HE : Hid (Arr wr w.heap.size w.heap.size k (idn k)) := by have := HA.out; rw [fill_all] at this; exact this
      go_wp2_with fail
      go_ret
      exact ⟨rfl, HE.out, HB.out⟩
end Go.Proofs.Ythnhmfmlhlpggaa
