/- What is proved: swapRange, rotate, insertion sort. No condition beyond those in each statement. -/
import Derived.Test.YthnhmfmlhlpggaaZS
namespace Go.Proofs.Ythnhmfmlhlpggaa
open Go.RowKit
set_option maxRecDepth 100000

/-- A row of the call's own at the world wr. -/
def SA (w0 : World) (base g c : Nat) (ys : List Int) (wr : World) : Prop := Arr wr base g c ys ∧ Below base w0 wr
theorem SA.sw {w0 wr : World} {base g c i j : Nat} {ys : List Int} (h : SA w0 base g c ys wr) (nn : Nat) : SA w0 base g c (sw ys i j) (((wr.drewN nn).setCell ⟨g, i, none⟩ (.int .i64 (ys.getD j 0))).setCell ⟨g, j, none⟩ (.int .i64 (ys.getD i 0))) := by
  have ha : Arr (wr.drewN nn) base g c ys := h.1
  have s1 := ha.set i (ys.getD j 0)
  have s2 := s1.1.set j (ys.getD i 0)
  exact ⟨s2.1, ((below_drewN h.2 nn).trans s1.2).trans s2.2⟩

def SwI (w0 : World) (base g c : Nat) (xs : List Int) (a b k lo hi : Nat) (v : Value) (wr : World) : Prop :=
  ∃ (t : Nat) (ys : List Int), v = .int .i64 t ∧ t ≤ k ∧ Hid (SwR xs ys a b t) ∧ Hid (Rear lo hi xs ys) ∧ Hid (SA w0 base g c ys wr)
set_option maxHeartbeats 4000000 in
theorem swapRange_calls (w0 : World) (base g c n : Nat) (xs : List Int) (a b k lo hi : Nat) (cmp : Value) (w : World) (h : SA w0 base g c xs w) (hn : n = xs.length) (hx : n ≤ 1000) (hab : a + k ≤ b) (hb : b + k ≤ n) (hlo : lo ≤ a) (hhi : b + k ≤ hi) :
    Calls Try.prog 123 #[.slice (some ⟨g, 0, none⟩) n c, .int .i64 a, .int .i64 b, .int .i64 k, cmp] w fun e w' => e = .returned (.tuple #[]) ∧ ∃ ys, SwR xs ys a b k ∧ Rear lo hi xs ys ∧ SA w0 base g c ys w' := by
  have HA := Lib.hid h
  have HN := Lib.hid hn
  clear h hn
  go_enter Try.func123, Try.ntmps123
  go_wp2_with fail
  go_loopw [10] (SwI w0 base g c xs a b k lo hi) (fun v _ => k - (intOf v).toNat)
  case atStart => exact ⟨0, xs, rfl, Nat.zero_le _, swr_zero _ _ _, Rear.refl _ _ _, HA.out⟩
  case round =>
    obtain ⟨t, ys, rfl, ht, HS, HR, HSA⟩ := hrel
    by_cases hlt : t < k
    · have hyl : ys.length = n := by rw [HR.out.len, HN.out]
      have hia : a + t < ys.length := by omega
      have hib : b + t < ys.length := by omega
      have c1 := HSA.out.1.at (a + t) hia
      have c2 := HSA.out.1.at (b + t) hib
      have f1 := HSA.out.1.free (a + t)
      have f2 := HSA.out.1.free (b + t)
      have HS2 := Lib.hid (swr_succ HS.out (by omega) hib)
      have HR2 := Lib.hid (HR.out.trans (rear_sw hia hib (a := lo) (b := hi) (by omega) (by omega) (by omega) (by omega)))
      have HW := Lib.hid (fun nn => HSA.out.sw (i := a + t) (j := b + t) nn)
      rw [← getD_lt 0 () hia] at c1
      rw [← getD_lt 0 () hib] at c2
      generalize ys.getD (a + t) 0 = x at c1 HW
      generalize ys.getD (b + t) 0 = y at c2 HW
      have b1 : (0 : Int) ≤ (a : Int) + (t : Int) ∧ (a : Int) + (t : Int) < n := by omega
      have b2 : (0 : Int) ≤ (b : Int) + (t : Int) ∧ (b : Int) + (t : Int) < n := by omega
      have w1 : IntKind.i64.wrap ((a : Int) + (t : Int)) = (a : Int) + (t : Int) := IntWalk.i64_in _ (by omega)
      have w2 : IntKind.i64.wrap ((b : Int) + (t : Int)) = (b : Int) + (t : Int) := IntWalk.i64_in _ (by omega)
      clear hyl hia hib
      go_wp2_with fail
      go_region
      all_goals
        clear c1 c2 f1 f2 w1 w2 b1 b2
        go_wp2_with fail
        go_roundw
        case rel => exact ⟨t + 1, _, by go_num, by omega, HS2.out, HR2.out, HW.out _⟩
        case measure => simp [intOf]; omega
    · have hte : t = k := by omega
      subst hte
      go_wp2_with fail
      go_end0
      exact ⟨rfl, ys, HS.out, HR.out, HSA.out⟩

def RtI (w0 : World) (base g c : Nat) (xs : List Int) (a m b : Nat) (v10 v11 : Value) (wr : World) : Prop :=
  ∃ (i j : Nat) (ys : List Int), v10 = .int .i64 i ∧ v11 = .int .i64 j ∧ (1 ≤ i ∧ a + i ≤ m) ∧ (1 ≤ j ∧ m + j ≤ b) ∧ Hid (Rot (rotF xs a m b) ys m i j) ∧ Hid (Rear a b xs ys) ∧ Hid (SA w0 base g c ys wr)
set_option maxHeartbeats 4000000 in
theorem rotate_calls (w0 : World) (base g c n : Nat) (xs : List Int) (a m b : Nat) (cmp : Value) (w : World) (h : SA w0 base g c xs w) (hn : n = xs.length) (hx : n ≤ 1000) (ham : a < m) (hmb : m < b) (hbn : b ≤ n) :
    Calls Try.prog 119 #[.slice (some ⟨g, 0, none⟩) n c, .int .i64 a, .int .i64 m, .int .i64 b, cmp] w fun e w' => e = .returned (.tuple #[]) ∧ ∃ ys : List Int, (∀ p, ys.getD p 0 = rotF xs a m b p) ∧ Rear a b xs ys ∧ SA w0 base g c ys w' := by
  have HA := Lib.hid h
  have HN := Lib.hid hn
  have e1 : (m : Int) - (a : Int) = ((m - a : Nat) : Int) := by omega
  have e2 : (b : Int) - (m : Int) = ((b - m : Nat) : Int) := by omega
  have E1 := Lib.hid e1
  have E2 := Lib.hid e2
  clear h hn e1 e2
  go_enter Try.func119, Try.ntmps119
  go_wp2_with fail
  go_loopw [10, 11] (RtI w0 base g c xs a m b) (fun v u _ => (intOf v).toNat + (intOf u).toNat)
  case atStart => exact ⟨m - a, b - m, xs, by rw [E1.out], by rw [E2.out], by omega, by omega, rot_start (by omega) (by omega), Rear.refl _ _ _, HA.out⟩
  case round =>
    obtain ⟨i, j, ys, rfl, rfl, ⟨i1, i2⟩, ⟨j1, j2⟩, HRO, HR, HSA⟩ := hrel
    have hyl : n = ys.length := by rw [HR.out.len, HN.out]
    have HYL := Lib.hid hyl
    clear hyl
    rcases Nat.lt_trichotomy i j with hij | hij | hij
    · have CP := Lib.hid (swapRange_calls w0 base g c n ys (m - i) (m + j - i) i a b cmp wr HSA.out HYL.out hx (by omega) (by omega) (by omega) (by omega))
      rw [show ((m - i : Nat) : Int) = (m : Int) - (i : Int) by omega, show ((m + j - i : Nat) : Int) = (m : Int) + (j : Int) - (i : Int) by omega] at CP
      have t1 : ((i : Int) != (j : Int)) = true := by rw [bne_iff_ne]; omega
      go_wp2_with fail
      refine CP.out.mono ?_
      rintro e w1 ⟨rfl, zs, hs, hr, hsa⟩
      have HS := Lib.hid (rot_right HRO.out (by omega) hij hs)
      have HR2 := Lib.hid (HR.out.trans hr)
      have HSA2 := Lib.hid hsa
      clear hs hr hsa
      go_wp2_with fail
      go_roundw
      case rel => exact ⟨i, j - i, zs, rfl, int_eq (by omega), by omega, by omega, HS.out, HR2.out, HSA2.out⟩
      case measure => simp [intOf]; omega
    · subst hij
      have CP := Lib.hid (swapRange_calls w0 base g c n ys (m - i) m i a b cmp wr HSA.out HYL.out hx (by omega) (by omega) (by omega) (by omega))
      rw [show ((m - i : Nat) : Int) = (m : Int) - (i : Int) by omega] at CP
      go_wp2_with fail
      refine CP.out.mono ?_
      rintro e w1 ⟨rfl, zs, hs, hr, hsa⟩
      have HS := Lib.hid (rot_end HRO.out (by omega) hs)
      have HR2 := Lib.hid (HR.out.trans hr)
      have HSA2 := Lib.hid hsa
      clear hs hr hsa
      go_wp2_with fail
      go_end0
      exact ⟨rfl, zs, HS.out, HR2.out, HSA2.out⟩
    · have CP := Lib.hid (swapRange_calls w0 base g c n ys (m - i) m j a b cmp wr HSA.out HYL.out hx (by omega) (by omega) (by omega) (by omega))
      rw [show ((m - i : Nat) : Int) = (m : Int) - (i : Int) by omega] at CP
      have t1 : ((i : Int) != (j : Int)) = true := by rw [bne_iff_ne]; omega
      go_wp2_with fail
      refine CP.out.mono ?_
      rintro e w1 ⟨rfl, zs, hs, hr, hsa⟩
      have HS := Lib.hid (rot_left HRO.out (by omega) hij hs)
      have HR2 := Lib.hid (HR.out.trans hr)
      have HSA2 := Lib.hid hsa
      clear hs hr hsa
      go_wp2_with fail
      go_roundw
      case rel => exact ⟨i - j, j, zs, int_eq (by omega), rfl, by omega, by omega, HS.out, HR2.out, HSA2.out⟩
      case measure => simp [intOf]; omega

/-- What the sorting asks of the comparison: it compares by f what V lets in. -/
structure SEnv (w0 : World) (base : Nat) (caps : Array Value) (f : Int → Int) (V : Int → Prop) : Prop where
  cmp : ∀ u v W, V u → V v → Below base w0 W → Calls Try.prog 59 (#[.int .i64 u, .int .i64 v] ++ caps) W fun e W' => e = .returned (.int .i64 (f u - f v)) ∧ Below W.heap.size W W'
  bd : ∀ u, V u → 0 ≤ f u ∧ f u ≤ 1000
/-- All elements are let in. -/
def AllV (V : Int → Prop) (xs : List Int) : Prop := ∀ v ∈ xs, V v
theorem AllV.rear {V : Int → Prop} {xs ys : List Int} {a b : Nat} (h : AllV V xs) (hr : Rear a b xs ys) : AllV V ys := fun v hv => h v (hr.1.mem_iff.2 hv)
theorem AllV.at {V : Int → Prop} {xs : List Int} (h : AllV V xs) {p : Nat} (hp : p < xs.length) : V (xs.getD p 0) := by
  rw [getD_lt 0 () hp]; exact h _ (List.getElem_mem hp)

def InO (w0 : World) (base g c : Nat) (xs : List Int) (f : Int → Int) (a b : Nat) (v : Value) (wr : World) : Prop :=
  ∃ (i : Nat) (ys : List Int), v = .int .i64 i ∧ a + 1 ≤ i ∧ (i ≤ b ∨ i = a + 1) ∧ Hid (Ris f ys a i) ∧ Hid (Rear a b xs ys) ∧ Hid (SA w0 base g c ys wr)
def InJ (w0 : World) (base g c : Nat) (xs : List Int) (f : Int → Int) (a b i : Nat) (v : Value) (wr : World) : Prop :=
  ∃ (j : Nat) (ys : List Int), v = .int .i64 j ∧ a ≤ j ∧ j ≤ i ∧ Hid (Ins f ys a i j) ∧ Hid (Rear a b xs ys) ∧ Hid (SA w0 base g c ys wr)
set_option maxHeartbeats 4000000 in
theorem insertion_calls (w0 : World) (base g c n : Nat) (xs : List Int) (a b : Nat) (caps : Array Value) (f : Int → Int) (V : Int → Prop) (hE : SEnv w0 base caps f V) (hV : AllV V xs) (w : World) (h : SA w0 base g c xs w) (hn : n = xs.length) (hx : n ≤ 1000) (hab : a ≤ b) (hbn : b ≤ n) :
    Calls Try.prog 112 #[.slice (some ⟨g, 0, none⟩) n c, .int .i64 a, .int .i64 b, .func (.func 59) #[] caps] w fun e w' => e = .returned (.tuple #[]) ∧ ∃ ys, Ris f ys a b ∧ Rear a b xs ys ∧ SA w0 base g c ys w' := by
  have HA := Lib.hid h
  have HN := Lib.hid hn
  have HV := Lib.hid hV
  have HE := Lib.hid hE
  clear h hn hV hE
  go_enter Try.func112, Try.ntmps112
  go_wp2_with fail
  go_loopw [8] (InO w0 base g c xs f a b) (fun v _ => b - (intOf v).toNat)
  case atStart => exact ⟨a + 1, xs, by go_num, by omega, by omega, ris_short _ _ (by omega), Rear.refl _ _ _, HA.out⟩
  case round =>
    obtain ⟨i, ys, rfl, hi1, hi2, HRI, HR, HSA⟩ := hrel
    by_cases hlt : i < b
    · go_wp2_with fail
      go_loopw [9] (InJ w0 base g c xs f a b i) (fun v _ => (intOf v).toNat)
      case atStart => exact ⟨i, ys, rfl, by omega, Nat.le_refl _, ins_start HRI.out, HR.out, HSA.out⟩
      case round =>
        obtain ⟨j, zs, rfl, hj1, hj2, HIN, HR2, HSA2⟩ := hrel
        have hzl : zs.length = n := by rw [HR2.out.len, HN.out]
        by_cases hja : a < j
        · obtain ⟨k, rfl⟩ : ∃ k, j = k + 1 := ⟨j - 1, by omega⟩
          have hj : k + 1 < zs.length := by omega
          have hjm : k < zs.length := by omega
          have c1 := HSA2.out.1.at (k + 1) hj
          have c2 := HSA2.out.1.at k hjm
          have v1 := (HV.out.rear HR2.out).at hj
          have v2 := (HV.out.rear HR2.out).at hjm
          rw [← getD_lt 0 () hj] at c1
          rw [← getD_lt 0 () hjm] at c2
          have HSW := Lib.hid (fun nn (w' : World) (h : SA w0 base g c zs w') => h.sw (i := k + 1) (j := k) nn)
          have HR3 := Lib.hid (HR2.out.trans (rear_sw hj hjm (a := a) (b := b) (by omega) (by omega) (by omega) (by omega)))
          have HI2 : Hid (f (zs.getD (k + 1) 0) < f (zs.getD k 0) → Ins f (sw zs (k + 1) k) a i k) := fun h => ins_step HIN.out hja hj2 (by omega) h
          have HI3 : Hid (f (zs.getD k 0) ≤ f (zs.getD (k + 1) 0) → Ris f zs a (i + 1)) := fun h => ins_end HIN.out hj2 (.inr ⟨hja, h⟩)
          obtain ⟨x, hx1⟩ : ∃ x, x = zs.getD (k + 1) 0 := ⟨_, rfl⟩
          obtain ⟨y, hy1⟩ : ∃ x, x = zs.getD k 0 := ⟨_, rfl⟩
          rw [← hx1] at c1 v1 HI2 HI3 HSW
          rw [← hy1] at c2 v2 HI2 HI3 HSW
          have hxb := HE.out.bd x v1
          have hyb := HE.out.bd y v2
          have HS : Hid (∀ w', Below wr.heap.size wr w' → w'.cell? ⟨g, k + 1, none⟩ = some (.int .i64 x) ∧ w'.cell? ⟨g, k, none⟩ = some (.int .i64 y)) := fun w' hw =>
            ⟨(hw.cell (p := ⟨g, k + 1, none⟩) HSA2.out.1.lt.2).trans c1, (hw.cell (p := ⟨g, k, none⟩) HSA2.out.1.lt.2).trans c2⟩
          have HSB : Hid (∀ w', Below wr.heap.size wr w' → SA w0 base g c zs w') := fun w' hw => ⟨HSA2.out.1.below hw, HSA2.out.2.trans (hw.mono (by have := HSA2.out.1.lt; omega))⟩
          have CP : Hid (∀ w', Below wr.heap.size wr w' → Calls Try.prog 59 (#[.int .i64 x, .int .i64 y] ++ caps) w' fun e w'' => e = .returned (.int .i64 (f x - f y)) ∧ Below wr.heap.size wr w'') := fun w' hw =>
            (HE.out.cmp x y w' v1 v2 (HSB.out w' hw).2).mono fun e w'' h => ⟨h.1, hw.trans (h.2.mono hw.size)⟩
          obtain ⟨F, hF⟩ : ∃ F, F = f x - f y := ⟨_, rfl⟩
          rw [← hF] at CP
          have HF := Lib.hid hF
          have hFb : -1000 ≤ F ∧ F ≤ 1000 := by omega
          have t1 : decide ((a : Int) < (k : Int) + 1) = true := decide_eq_true (by omega)
          have b1 : (0 : Int) ≤ (k : Int) + 1 := by omega
          have b2 : (k : Int) + 1 < n := by omega
          have b3 : (0 : Int) ≤ (k : Int) := by omega
          have b4 : (k : Int) < n := by omega
          have w1 : IntKind.i64.wrap ((k : Int) + 1) = (k : Int) + 1 := IntWalk.i64_in _ (by omega)
          have w2 : IntKind.i64.wrap (k : Int) = (k : Int) := IntWalk.i64_in _ (by omega)
          clear hx1 hy1 hF hxb hyb v1 v2 hj hjm hzl
          go_wp2_with fail
          go_region_held3 (fun w' => w'.cell? ⟨g, k + 1, none⟩ = some (.int .i64 x) ∧ w'.cell? ⟨g, k, none⟩ = some (.int .i64 y))
            ((exact HS.out _ (by repeat (first | with_reducible exact Below.refl _ _ | with_reducible refine Below.drew ?_ | with_reducible assumption))))
            ((go_at_call 59; (with_reducible refine (CP.out _ (by repeat (first | with_reducible exact Below.refl _ _ | with_reducible refine Below.drew ?_ | with_reducible assumption))).mono ?_); rintro e w9 ⟨rfl, hb9⟩))
          have hw9 := HSB.out w9 hb9
          have c3 := (HS.out w9 hb9).1
          have c4 := (HS.out w9 hb9).2
          have HW9 := Lib.hid hw9
          by_cases hF0 : F < 0
          · have t2 : decide (F < 0) = true := decide_eq_true hF0
            have f1 := hw9.1.free (k + 1)
            have f2 := hw9.1.free k
            have HW := Lib.hid (fun nn => HSW.out nn w9 hw9)
            have HI4 := Lib.hid (HI2.out (by have := HF.out; omega))
            clear hw9 hb9 c1 c2
            go_wp2_with fail
            go_region
            all_goals
              clear c3 c4 f1 f2 w1 w2 b1 b2 b3 b4
              go_wp2_with fail
              go_roundw
              case rel => exact ⟨k, _, rfl, by omega, by omega, HI4.out, HR3.out, HW.out _⟩
              case measure => simp [intOf]
          · have t2 : decide (F < 0) = false := decide_eq_false hF0
            have HI4 := Lib.hid (HI3.out (by have := HF.out; omega))
            clear hw9 hb9 c1 c2 c3 c4
            go_wp2_with fail
            go_roundw
            case rel => exact ⟨i + 1, zs, by go_num, by omega, by omega, HI4.out, HR2.out, HW9.out⟩
            case measure => simp [intOf]; omega
        · obtain rfl : a = j := by omega
          have HI4 := Lib.hid (ins_end HIN.out hj2 (.inl (by omega)))
          clear hja
          go_wp2_with fail
          go_quiet (fail)
          go_wp2_with fail
          go_roundw
          case rel => exact ⟨i + 1, zs, by go_num, by omega, by omega, HI4.out, HR2.out, ⟨HSA2.out.1, below_drewN HSA2.out.2 _⟩⟩
          case measure => simp [intOf]; omega
    · have HRE : Hid (Ris f ys a b) := HRI.out.part (Nat.le_refl _) (by omega)
      go_wp2_with fail
      go_end0
      exact ⟨rfl, ys, HRE.out, HR.out, HSA.out⟩
end Go.Proofs.Ythnhmfmlhlpggaa
