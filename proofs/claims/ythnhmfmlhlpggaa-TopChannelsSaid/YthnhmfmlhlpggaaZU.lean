/- What is proved: symMerge. No condition beyond those in each statement. -/
import Derived.Test.YthnhmfmlhlpggaaZT
namespace Go.Proofs.Ythnhmfmlhlpggaa
open Go.RowKit
set_option maxRecDepth 100000

theorem Ris.le {f : Int → Int} {xs : List Int} {a b p q : Nat} (h : Ris f xs a b) (h1 : a ≤ p) (h2 : p ≤ q) (h3 : q < b) : f (xs.getD p 0) ≤ f (xs.getD q 0) := by
  by_cases e : p = q
  · subst e; exact Int.le_refl _
  · exact h p q h1 (by omega) h3

def Se1 (f : Int → Int) (xs : List Int) (a m b i j : Nat) : Prop :=
  (∀ p, m ≤ p → p < i → f (xs.getD p 0) < f (xs.getD a 0)) ∧ ∀ q, j ≤ q → q < b → f (xs.getD a 0) ≤ f (xs.getD q 0)
theorem se1_up {f : Int → Int} {xs : List Int} {a m b i j h : Nat} (hr : Ris f xs m b) (hs : Se1 f xs a m b i j) (h2 : h < b) (hlt : f (xs.getD h 0) < f (xs.getD a 0)) : Se1 f xs a m b (h + 1) j :=
  ⟨fun p p1 p2 => Int.lt_of_le_of_lt (hr.le p1 (by omega) h2) hlt, hs.2⟩
theorem se1_dn {f : Int → Int} {xs : List Int} {a m b i j h : Nat} (hr : Ris f xs m b) (hs : Se1 f xs a m b i j) (h2 : m ≤ h) (hge : f (xs.getD a 0) ≤ f (xs.getD h 0)) : Se1 f xs a m b i h :=
  ⟨hs.1, fun _q q1 q2 => Int.le_trans hge (hr.le h2 q1 q2)⟩
def Se1I (w0 : World) (base g c : Nat) (xs : List Int) (f : Int → Int) (a m b : Nat) (v u : Value) (wr : World) : Prop :=
  ∃ i j : Nat, v = .int .i64 i ∧ u = .int .i64 j ∧ m ≤ i ∧ i ≤ j ∧ j ≤ b ∧ Hid (Se1 f xs a m b i j) ∧ Hid (SA w0 base g c xs wr)
def Up1I (w0 : World) (base g c : Nat) (xs : List Int) (f : Int → Int) (a b i : Nat) (v : Value) (wr : World) : Prop :=
  ∃ (k : Nat) (ys : List Int), v = .int .i64 k ∧ a ≤ k ∧ k + 1 ≤ i ∧ Hid (Up1 f ys a b i k) ∧ Hid (Rear a b xs ys) ∧ Hid (SA w0 base g c ys wr)
def Se2 (f : Int → Int) (xs : List Int) (a m i j : Nat) : Prop :=
  (∀ p, a ≤ p → p < i → f (xs.getD p 0) ≤ f (xs.getD m 0)) ∧ ∀ q, j ≤ q → q < m → f (xs.getD m 0) < f (xs.getD q 0)
theorem se2_up {f : Int → Int} {xs : List Int} {a m i j h : Nat} (hr : Ris f xs a m) (hs : Se2 f xs a m i j) (h2 : h < m) (hle : f (xs.getD h 0) ≤ f (xs.getD m 0)) : Se2 f xs a m (h + 1) j :=
  ⟨fun p p1 p2 => Int.le_trans (hr.le p1 (by omega) h2) hle, hs.2⟩
theorem se2_dn {f : Int → Int} {xs : List Int} {a m i j h : Nat} (hr : Ris f xs a m) (hs : Se2 f xs a m i j) (h2 : a ≤ h) (hgt : f (xs.getD m 0) < f (xs.getD h 0)) : Se2 f xs a m i h :=
  ⟨hs.1, fun _q q1 q2 => Int.lt_of_lt_of_le hgt (hr.le h2 q1 q2)⟩
def Se2I (w0 : World) (base g c : Nat) (xs : List Int) (f : Int → Int) (a m : Nat) (v u : Value) (wr : World) : Prop :=
  ∃ i j : Nat, v = .int .i64 i ∧ u = .int .i64 j ∧ a ≤ i ∧ i ≤ j ∧ j ≤ m ∧ Hid (Se2 f xs a m i j) ∧ Hid (SA w0 base g c xs wr)
def Dn1I (w0 : World) (base g c : Nat) (xs : List Int) (f : Int → Int) (a m i : Nat) (v : Value) (wr : World) : Prop :=
  ∃ (k : Nat) (ys : List Int), v = .int .i64 k ∧ i ≤ k ∧ k ≤ m ∧ Hid (Dn1 f ys a m i k) ∧ Hid (Rear a (m + 1) xs ys) ∧ Hid (SA w0 base g c ys wr)
def Se3 (f : Int → Int) (xs : List Int) (q s0 r0 s r : Nat) : Prop :=
  (s = s0 ∨ f (xs.getD (s - 1) 0) ≤ f (xs.getD (q - s) 0)) ∧ (r = r0 ∨ f (xs.getD (q - 1 - r) 0) < f (xs.getD r 0))
def Se3I (w0 : World) (base g c : Nat) (xs : List Int) (f : Int → Int) (q s0 r0 : Nat) (v u : Value) (wr : World) : Prop :=
  ∃ s r : Nat, v = .int .i64 s ∧ u = .int .i64 r ∧ s0 ≤ s ∧ s ≤ r ∧ r ≤ r0 ∧ Hid (Se3 f xs q s0 r0 s r) ∧ Hid (SA w0 base g c xs wr)

theorem rot_parts {f : Int → Int} {xs ys : List Int} {a m b mid s e : Nat} (hr1 : Ris f xs a m) (hr2 : Ris f xs m b) (hy : ∀ p, ys.getD p 0 = rotF xs s m e p) (h1 : a ≤ s) (h2 : s ≤ m) (h3 : m ≤ e) (h4 : e ≤ b) (h5 : s + e = mid + m)
    (hAB : s = a ∨ e = b ∨ f (xs.getD (s - 1) 0) ≤ f (xs.getD e 0)) (hBA : s = m ∨ e = m ∨ f (xs.getD (e - 1) 0) < f (xs.getD s 0)) :
    Ris f ys a s ∧ Ris f ys s mid ∧ Ris f ys mid e ∧ Ris f ys e b ∧ ∀ p q, a ≤ p → p < mid → mid ≤ q → q < b → f (ys.getD p 0) ≤ f (ys.getD q 0) := by
  have y1 : ∀ p, p < s → ys.getD p 0 = xs.getD p 0 := fun p hp => by rw [hy]; unfold rotF; rw [if_neg (by omega)]
  have y2 : ∀ p, s ≤ p → p < mid → ys.getD p 0 = xs.getD (p - s + m) 0 := fun p p1 p2 => by rw [hy]; unfold rotF; rw [if_pos (by omega), if_pos (by omega)]
  have y3 : ∀ p, mid ≤ p → p < e → ys.getD p 0 = xs.getD (p - (e - m)) 0 := fun p p1 p2 => by rw [hy]; unfold rotF; rw [if_pos (by omega), if_neg (by omega)]
  have y4 : ∀ p, e ≤ p → ys.getD p 0 = xs.getD p 0 := fun p hp => by rw [hy]; unfold rotF; rw [if_neg (by omega)]
  refine ⟨fun p q p1 p2 p3 => ?_, fun p q p1 p2 p3 => ?_, fun p q p1 p2 p3 => ?_, fun p q p1 p2 p3 => ?_, fun p q p1 p2 p3 p4 => ?_⟩
  · rw [y1 p (by omega), y1 q p3]; exact hr1 p q p1 p2 (by omega)
  · rw [y2 p p1 (by omega), y2 q (by omega) p3]; exact hr2 _ _ (by omega) (by omega) (by omega)
  · rw [y3 p p1 (by omega), y3 q (by omega) p3]; exact hr1 _ _ (by omega) (by omega) (by omega)
  · rw [y4 p p1, y4 q (by omega)]; exact hr2 _ _ (by omega) (by omega) (by omega)
  · by_cases c1 : p < s
    · rw [y1 p c1]
      by_cases c2 : q < e
      · rw [y3 q p3 c2]; exact hr1.le p1 (by omega) (by omega)
      · rw [y4 q (by omega)]
        rcases hAB with h | h | h
        · omega
        · omega
        · exact Int.le_trans (hr1.le p1 (by omega) (by omega)) (Int.le_trans h (hr2.le h3 (by omega) p4))
    · rw [y2 p (by omega) p2]
      by_cases c2 : q < e
      · rw [y3 q p3 c2]
        rcases hBA with h | h | h
        · omega
        · omega
        · exact Int.le_trans (hr2.le (by omega) (by omega) (by omega)) (Int.le_trans (Int.le_of_lt h) (hr1.le h1 (by omega) (by omega)))
      · rw [y4 q (by omega)]; exact hr2.le (by omega) (by omega) p4
theorem ris_join {f : Int → Int} {ys zs vs : List Int} {a mid b : Nat} (h1 : Ris f zs a mid) (k1 : Rear a mid ys zs) (h2 : Ris f vs mid b) (k2 : Rear mid b zs vs) (hc : ∀ p q, a ≤ p → p < mid → mid ≤ q → q < b → f (ys.getD p 0) ≤ f (ys.getD q 0)) : Ris f vs a b := by
  intro p q p1 p2 p3
  by_cases c1 : q < mid
  · rw [k2.2.1 p (by omega), k2.2.1 q (by omega)]; exact h1 p q p1 p2 c1
  · by_cases c2 : mid ≤ p
    · exact h2 p q c2 p2 p3
    · rw [k2.2.1 p (by omega)]
      obtain ⟨i, i1, i2, e1⟩ := k1.2.2 p p1 (by omega)
      obtain ⟨j, j1, j2, e2⟩ := k2.2.2 q (by omega) p3
      rw [e1, e2, k1.2.1 j (by omega)]
      exact hc i j i1 i2 j1 j2
theorem rotF_none {xs : List Int} {s m e : Nat} (_h1 : s ≤ m) (h2 : m ≤ e) (h : s = m ∨ e = m) (p : Nat) : xs.getD p 0 = rotF xs s m e p := by
  unfold rotF
  by_cases c1 : s ≤ p ∧ p < e
  · rw [if_pos c1]
    rcases h with h | h
    · rw [if_pos (by omega)]; congr 1; omega
    · rw [if_neg (by omega)]; congr 1; omega
  · rw [if_neg c1]
/-- A row's cells at the worlds that follow, and the comparison there. -/
theorem SA.look {w0 wr : World} {base g c : Nat} {xs : List Int} {caps : Array Value} {f : Int → Int} {V : Int → Prop} (hE : SEnv w0 base caps f V) (hV : AllV V xs) (h : SA w0 base g c xs wr) {p q : Nat} (hp : p < xs.length) (hq : q < xs.length) :
    (wr.cell? ⟨g, p, none⟩ = some (.int .i64 (xs.getD p 0)) ∧ wr.cell? ⟨g, q, none⟩ = some (.int .i64 (xs.getD q 0))) ∧
    (∀ w', Below wr.heap.size wr w' → w'.cell? ⟨g, p, none⟩ = some (.int .i64 (xs.getD p 0)) ∧ w'.cell? ⟨g, q, none⟩ = some (.int .i64 (xs.getD q 0))) ∧
    (∀ w', Below wr.heap.size wr w' → SA w0 base g c xs w') ∧
    (∀ w', Below wr.heap.size wr w' → Calls Try.prog 59 (#[.int .i64 (xs.getD p 0), .int .i64 (xs.getD q 0)] ++ caps) w' fun e w'' => e = .returned (.int .i64 (f (xs.getD p 0) - f (xs.getD q 0))) ∧ Below wr.heap.size wr w'') ∧
    (-1000 ≤ f (xs.getD p 0) - f (xs.getD q 0) ∧ f (xs.getD p 0) - f (xs.getD q 0) ≤ 1000) := by
  have c1 := h.1.at p hp
  have c2 := h.1.at q hq
  rw [← getD_lt 0 () hp] at c1
  rw [← getD_lt 0 () hq] at c2
  have v1 := hV.at hp
  have v2 := hV.at hq
  have b1 := hE.bd _ v1
  have b2 := hE.bd _ v2
  have hsb : ∀ w', Below wr.heap.size wr w' → SA w0 base g c xs w' := fun w' hw => ⟨h.1.below hw, h.2.trans (hw.mono (by have := h.1.lt; omega))⟩
  exact ⟨⟨c1, c2⟩, fun w' hw => ⟨(hw.cell (p := ⟨g, p, none⟩) h.1.lt.2).trans c1, (hw.cell (p := ⟨g, q, none⟩) h.1.lt.2).trans c2⟩, hsb,
    fun w' hw => (hE.cmp _ _ w' v1 v2 (hsb w' hw).2).mono fun e w'' h => ⟨h.1, hw.trans (h.2.mono hw.size)⟩, by omega⟩

/-- symMerge's contract, for at most N places. -/
def SymC (w0 : World) (base g c n : Nat) (caps : Array Value) (f : Int → Int) (V : Int → Prop) (N : Nat) : Prop :=
    ∀ (xs : List Int) (a m b : Nat) (w : World), b - a ≤ N → AllV V xs → SA w0 base g c xs w → n = xs.length → a < m → m < b → b ≤ n → Ris f xs a m → Ris f xs m b →
    Calls Try.prog 113 #[.slice (some ⟨g, 0, none⟩) n c, .int .i64 a, .int .i64 m, .int .i64 b, .func (.func 59) #[] caps] w fun e w' => e = .returned (.tuple #[]) ∧ ∃ ys, Ris f ys a b ∧ Rear a b xs ys ∧ SA w0 base g c ys w'
set_option maxHeartbeats 8000000 in
theorem sym_case1 (w0 : World) (base g c n : Nat) (caps : Array Value) (f : Int → Int) (V : Int → Prop) (hE : SEnv w0 base caps f V) (hx : n ≤ 1000) (N : Nat) (ih : SymC w0 base g c n caps f V N)
    (xs : List Int) (a m b : Nat) (w : World) (_hN : b - a ≤ N + 1) (hV : AllV V xs) (hA : SA w0 base g c xs w) (hn : n = xs.length) (ham : a < m) (hmb : m < b) (hbn : b ≤ n) (hr1 : Ris f xs a m) (hr2 : Ris f xs m b) (hm1 : m = a + 1) :
    Calls Try.prog 113 #[.slice (some ⟨g, 0, none⟩) n c, .int .i64 a, .int .i64 m, .int .i64 b, .func (.func 59) #[] caps] w fun e w' => e = .returned (.tuple #[]) ∧ ∃ ys, Ris f ys a b ∧ Rear a b xs ys ∧ SA w0 base g c ys w' := by
  have HE := Lib.hid hE
  have IH := Lib.hid ih
  have HV := Lib.hid hV
  have HA := Lib.hid hA
  have HN := Lib.hid hn
  have HR1 := Lib.hid hr1
  have HR2 := Lib.hid hr2
  clear hE ih hV hA hn hr1 hr2
  all_goals
      have t0 : ((m : Int) - (a : Int) == 1) = true := by rw [beq_iff_eq]; omega
      have HM1 := Lib.hid hm1
      clear hm1
      go_enter Try.func113, Try.ntmps113
      go_wp2_with fail
      go_loopw [10, 11] (Se1I w0 base g c xs f a m b) (fun v u _ => (intOf u).toNat - (intOf v).toNat)
      case atStart => exact ⟨m, b, rfl, rfl, by omega, by omega, by omega, ⟨fun p h1 h2 => by omega, fun q h1 h2 => by omega⟩, HA.out⟩
      case round =>
        obtain ⟨i, j, rfl, rfl, hi1, hij, hj1, HS, HSA⟩ := hrel
        by_cases hlt : i < j
        · obtain ⟨h, hh⟩ : ∃ h : Nat, ((i : Int) + (j : Int)) / 2 = h := ⟨(i + j) / 2, by omega⟩
          have hh1 : i ≤ h ∧ h < j := by omega
          obtain ⟨hh1, hh2⟩ := hh1
          have hP : h < xs.length := by have := HN.out; omega
          have hQ : a < xs.length := by have := HN.out; omega
          obtain ⟨⟨c1, c2⟩, hs, hsb, hcp, hfb⟩ := HSA.out.look HE.out HV.out hP hQ
          have HS2 := Lib.hid hs
          have HSB := Lib.hid hsb
          have CP := Lib.hid hcp
          obtain ⟨x, hx1⟩ : ∃ x, x = xs.getD (h) 0 := ⟨_, rfl⟩
          obtain ⟨y, hy1⟩ : ∃ x, x = xs.getD (a) 0 := ⟨_, rfl⟩
          rw [← hx1] at c1 HS2 CP hfb
          rw [← hy1] at c2 HS2 CP hfb
          obtain ⟨F, hF⟩ : ∃ F, F = f x - f y := ⟨_, rfl⟩
          rw [← hF] at CP hfb
          have HX1 := Lib.hid hx1
          have HY1 := Lib.hid hy1
          have HF := Lib.hid hF
          obtain ⟨fb1, fb2⟩ := hfb
          have e1 : (0 : Int) ≤ (h : Int) := by omega
          have e2 : (h : Int) < n := by omega
          have e3 : (0 : Int) ≤ (a : Int) := by omega
          have e4 : (a : Int) < n := by omega
          have w1 : IntKind.i64.wrap (h : Int) = h := IntWalk.i64_in _ (by omega)
          have w2 : IntKind.i64.wrap (a : Int) = a := IntWalk.i64_in _ (by omega)
          clear hs hsb hcp hx1 hy1 hF hP hQ
          go_wp2_with fail
          go_region_held3 (fun w' => w'.cell? ⟨g, h, none⟩ = some (.int .i64 x) ∧ w'.cell? ⟨g, a, none⟩ = some (.int .i64 y))
            ((exact HS2.out _ (by repeat (first | with_reducible exact Below.refl _ _ | with_reducible refine Below.drew ?_ | with_reducible assumption))))
            ((go_at_call 59; (with_reducible refine (CP.out _ (by repeat (first | with_reducible exact Below.refl _ _ | with_reducible refine Below.drew ?_ | with_reducible assumption))).mono ?_); rintro e w9 ⟨rfl, hb9⟩))
          have HW9 := Lib.hid (HSB.out w9 hb9)
          clear hb9 c1 c2
          by_cases hF0 : F < 0
          · have t2 : decide (F < 0) = true := decide_eq_true hF0
            have HS3 := Lib.hid (se1_up HR2.out HS.out (h := h) (by omega) (by have := HF.out; rw [← HX1.out, ← HY1.out]; omega))
            go_wp2_with fail
            go_roundw
            case rel => exact ⟨h + 1, j, by go_num, rfl, by omega, by omega, hj1, HS3.out, HW9.out⟩
            case measure => simp [intOf]; omega
          · have t2 : decide (F < 0) = false := decide_eq_false hF0
            have HS3 := Lib.hid (se1_dn HR2.out HS.out (h := h) (by omega) (by have := HF.out; rw [← HX1.out, ← HY1.out]; omega))
            go_wp2_with fail
            go_roundw
            case rel => exact ⟨i, h, rfl, rfl, by omega, by omega, by omega, HS3.out, HW9.out⟩
            case measure => simp [intOf]; omega
        · obtain rfl : i = j := by omega
          have HU := Lib.hid (up1_start (f := f) (ys := xs) (a := a) (b := b) (i := i) (by omega) (by rw [← HM1.out]; exact HR2.out) (by rw [← HM1.out]; exact HS.out.1) HS.out.2)
          go_wp2_with fail
          go_loopw [13] (Up1I w0 base g c xs f a b i) (fun v _ => i - (intOf v).toNat)
          case atStart => exact ⟨a, xs, rfl, Nat.le_refl _, by omega, HU.out, Rear.refl _ _ _, HSA.out⟩
          case round =>
            obtain ⟨k, ys, rfl, hk1, hk2, HU2, HRE, HSA2⟩ := hrel
            by_cases hlt2 : k + 1 < i
            · have hyl : ys.length = n := by rw [HRE.out.len, HN.out]
              have hkl : k < ys.length := by omega
              have hkl1 : k + 1 < ys.length := by omega
              have c1 := HSA2.out.1.at k hkl
              have c2 := HSA2.out.1.at (k + 1) hkl1
              have f1 := HSA2.out.1.free k
              have f2 := HSA2.out.1.free (k + 1)
              have HU3 := Lib.hid (up1_step HU2.out hk1 hlt2 hj1 (by omega))
              have HR3 := Lib.hid (HRE.out.trans (rear_sw hkl hkl1 (a := a) (b := b) (by omega) (by omega) (by omega) (by omega)))
              have HW := Lib.hid (fun nn => HSA2.out.sw (i := k) (j := k + 1) nn)
              rw [← getD_lt 0 () hkl] at c1
              rw [← getD_lt 0 () hkl1] at c2
              generalize ys.getD k 0 = x at c1 HW
              generalize ys.getD (k + 1) 0 = y at c2 HW
              have t3 : decide ((k : Int) < (i : Int) - 1) = true := decide_eq_true (by omega)
              have b1 : (0 : Int) ≤ (k : Int) := by omega
              have b2 : (k : Int) < n := by omega
              have b3 : (0 : Int) ≤ (k : Int) + 1 := by omega
              have b4 : (k : Int) + 1 < n := by omega
              have w1 : IntKind.i64.wrap ((k : Int) + 1) = (k : Int) + 1 := IntWalk.i64_in _ (by omega)
              have w2 : IntKind.i64.wrap (k : Int) = (k : Int) := IntWalk.i64_in _ (by omega)
              clear hyl hkl hkl1
              go_wp2_with fail
              go_region
              all_goals
                clear c1 c2 f1 f2 w1 w2 b1 b2 b3 b4 t3
                go_wp2_with fail
                go_roundw
                case rel => exact ⟨k + 1, _, by go_num, by omega, by omega, HU3.out, HR3.out, HW.out _⟩
                case measure => simp [intOf]; omega
            · have t3 : decide ((k : Int) < (i : Int) - 1) = false := decide_eq_false (by omega)
              have HE3 := Lib.hid (up1_end HU2.out (by omega))
              go_wp2_with fail
              (try simp only [Exit.inBlock, Exit.then])
              refine bodyPost_ret (results_none rfl _ _ _) rfl ?_
              exact ⟨rfl, ys, HE3.out, HRE.out, HSA2.out⟩
set_option maxHeartbeats 8000000 in
theorem sym_case2 (w0 : World) (base g c n : Nat) (caps : Array Value) (f : Int → Int) (V : Int → Prop) (hE : SEnv w0 base caps f V) (hx : n ≤ 1000) (N : Nat) (ih : SymC w0 base g c n caps f V N)
    (xs : List Int) (a m b : Nat) (w : World) (_hN : b - a ≤ N + 1) (hV : AllV V xs) (hA : SA w0 base g c xs w) (hn : n = xs.length) (ham : a < m) (hmb : m < b) (hbn : b ≤ n) (hr1 : Ris f xs a m) (hr2 : Ris f xs m b) (hm1 : m ≠ a + 1) (hb1 : b = m + 1) :
    Calls Try.prog 113 #[.slice (some ⟨g, 0, none⟩) n c, .int .i64 a, .int .i64 m, .int .i64 b, .func (.func 59) #[] caps] w fun e w' => e = .returned (.tuple #[]) ∧ ∃ ys, Ris f ys a b ∧ Rear a b xs ys ∧ SA w0 base g c ys w' := by
  have HE := Lib.hid hE
  have IH := Lib.hid ih
  have HV := Lib.hid hV
  have HA := Lib.hid hA
  have HN := Lib.hid hn
  have HR1 := Lib.hid hr1
  have HR2 := Lib.hid hr2
  clear hE ih hV hA hn hr1 hr2
  have t0 : ((m : Int) - (a : Int) == 1) = false := by rw [beq_eq_false_iff_ne]; omega
  all_goals
        have t1 : ((b : Int) - (m : Int) == 1) = true := by rw [beq_iff_eq]; omega
        have HM1 := Lib.hid hb1
        clear hm1 hb1
        go_enter Try.func113, Try.ntmps113
        go_wp2_with fail
        go_loopw [14, 15] (Se2I w0 base g c xs f a m) (fun v u _ => (intOf u).toNat - (intOf v).toNat)
        case atStart => exact ⟨a, m, rfl, rfl, by omega, by omega, by omega, ⟨fun p h1 h2 => by omega, fun q h1 h2 => by omega⟩, HA.out⟩
        case round =>
          obtain ⟨i, j, rfl, rfl, hi1, hij, hj1, HS, HSA⟩ := hrel
          by_cases hlt : i < j
          · obtain ⟨h, hh⟩ : ∃ h : Nat, ((i : Int) + (j : Int)) / 2 = h := ⟨(i + j) / 2, by omega⟩
            have hh1 : i ≤ h ∧ h < j := by omega
            obtain ⟨hh1, hh2⟩ := hh1
            have hP : m < xs.length := by have := HN.out; omega
            have hQ : h < xs.length := by have := HN.out; omega
            obtain ⟨⟨c1, c2⟩, hs, hsb, hcp, hfb⟩ := HSA.out.look HE.out HV.out hP hQ
            have HS2 := Lib.hid hs
            have HSB := Lib.hid hsb
            have CP := Lib.hid hcp
            obtain ⟨x, hx1⟩ : ∃ x, x = xs.getD (m) 0 := ⟨_, rfl⟩
            obtain ⟨y, hy1⟩ : ∃ x, x = xs.getD (h) 0 := ⟨_, rfl⟩
            rw [← hx1] at c1 HS2 CP hfb
            rw [← hy1] at c2 HS2 CP hfb
            obtain ⟨F, hF⟩ : ∃ F, F = f x - f y := ⟨_, rfl⟩
            rw [← hF] at CP hfb
            have HX1 := Lib.hid hx1
            have HY1 := Lib.hid hy1
            have HF := Lib.hid hF
            obtain ⟨fb1, fb2⟩ := hfb
            have e1 : (0 : Int) ≤ (h : Int) := by omega
            have e2 : (h : Int) < n := by omega
            have e3 : (0 : Int) ≤ (m : Int) := by omega
            have e4 : (m : Int) < n := by omega
            have w1 : IntKind.i64.wrap (h : Int) = h := IntWalk.i64_in _ (by omega)
            have w2 : IntKind.i64.wrap (m : Int) = m := IntWalk.i64_in _ (by omega)
            clear hs hsb hcp hx1 hy1 hF hP hQ
            go_wp2_with fail
            go_region_held3 (fun w' => w'.cell? ⟨g, m, none⟩ = some (.int .i64 x) ∧ w'.cell? ⟨g, h, none⟩ = some (.int .i64 y))
              ((exact HS2.out _ (by repeat (first | with_reducible exact Below.refl _ _ | with_reducible refine Below.drew ?_ | with_reducible assumption))))
              ((go_at_call 59; (with_reducible refine (CP.out _ (by repeat (first | with_reducible exact Below.refl _ _ | with_reducible refine Below.drew ?_ | with_reducible assumption))).mono ?_); rintro e w9 ⟨rfl, hb9⟩))
            have HW9 := Lib.hid (HSB.out w9 hb9)
            clear hb9 c1 c2
            by_cases hF0 : F < 0
            · have t2 : (!decide (F < 0)) = false := by rw [decide_eq_true hF0]; rfl
              rw [t2]
              clear t2
              have HS3 := Lib.hid (se2_dn HR1.out HS.out (h := h) (by omega) (by have := HF.out; rw [← HX1.out, ← HY1.out]; omega))
              go_wp2_with fail
              go_roundw
              case rel => exact ⟨i, h, rfl, rfl, by omega, by omega, by omega, HS3.out, HW9.out⟩
              case measure => simp [intOf]; omega
            · have t2 : (!decide (F < 0)) = true := by rw [decide_eq_false hF0]; rfl
              rw [t2]
              clear t2
              have HS3 := Lib.hid (se2_up HR1.out HS.out (h := h) (by omega) (by have := HF.out; rw [← HX1.out, ← HY1.out]; omega))
              go_wp2_with fail
              go_roundw
              case rel => exact ⟨h + 1, j, by go_num, rfl, by omega, by omega, by omega, HS3.out, HW9.out⟩
              case measure => simp [intOf]; omega
          · obtain rfl : i = j := by omega
            have HU := Lib.hid (dn1_start (f := f) (ys := xs) (a := a) (m := m) (i := i) HR1.out HS.out.1 HS.out.2)
            go_wp2_with fail
            go_loopw [17] (Dn1I w0 base g c xs f a m i) (fun v _ => (intOf v).toNat)
            case atStart => exact ⟨m, xs, rfl, by omega, Nat.le_refl _, HU.out, Rear.refl _ _ _, HSA.out⟩
            case round =>
              obtain ⟨k, ys, rfl, hk1, hk2, HU2, HRE, HSA2⟩ := hrel
              by_cases hlt2 : i < k
              · obtain ⟨k, rfl⟩ : ∃ k', k = k' + 1 := ⟨k - 1, by omega⟩
                have hyl : ys.length = n := by rw [HRE.out.len, HN.out]
                have hkl : k < ys.length := by omega
                have hkl1 : k + 1 < ys.length := by omega
                have c1 := HSA2.out.1.at k hkl
                have c2 := HSA2.out.1.at (k + 1) hkl1
                have f1 := HSA2.out.1.free k
                have f2 := HSA2.out.1.free (k + 1)
                have HU3 := Lib.hid (dn1_step HU2.out hi1 hlt2 hk2 (by omega))
                have HR3 := Lib.hid (HRE.out.trans (rear_sw hkl1 hkl (a := a) (b := m + 1) (by omega) (by omega) (by omega) (by omega)))
                have HW := Lib.hid (fun nn => HSA2.out.sw (i := k + 1) (j := k) nn)
                rw [← getD_lt 0 () hkl] at c1
                rw [← getD_lt 0 () hkl1] at c2
                generalize ys.getD k 0 = x at c1 HW
                generalize ys.getD (k + 1) 0 = y at c2 HW
                have t3 : decide ((i : Int) < (k : Int) + 1) = true := decide_eq_true (by omega)
                have b1 : (0 : Int) ≤ (k : Int) := by omega
                have b2 : (k : Int) < n := by omega
                have b3 : (0 : Int) ≤ (k : Int) + 1 := by omega
                have b4 : (k : Int) + 1 < n := by omega
                have w1 : IntKind.i64.wrap ((k : Int) + 1) = (k : Int) + 1 := IntWalk.i64_in _ (by omega)
                have w2 : IntKind.i64.wrap (k : Int) = (k : Int) := IntWalk.i64_in _ (by omega)
                clear hyl hkl hkl1
                go_wp2_with fail
                go_region
                all_goals
                  clear c1 c2 f1 f2 w1 w2 b1 b2 b3 b4 t3
                  go_wp2_with fail
                  go_roundw
                  case rel => exact ⟨k, _, rfl, by omega, by omega, HU3.out, HR3.out, HW.out _⟩
                  case measure => simp [intOf]
              · have t3 : decide ((i : Int) < (k : Int)) = false := decide_eq_false (by omega)
                have HE3 : Hid (Ris f ys a b) := by have := dn1_end HU2.out (by omega); rw [HM1.out]; exact this
                have HR4 : Hid (Rear a b xs ys) := by rw [HM1.out]; exact HRE.out
                go_wp2_with fail
                (try simp only [Exit.inBlock, Exit.then])
                refine bodyPost_ret (results_none rfl _ _ _) rfl ?_
                exact ⟨rfl, ys, HE3.out, HR4.out, HSA2.out⟩
set_option maxHeartbeats 8000000 in
theorem sym_case3 (w0 : World) (base g c n : Nat) (caps : Array Value) (f : Int → Int) (V : Int → Prop) (hE : SEnv w0 base caps f V) (hx : n ≤ 1000) (N : Nat) (ih : SymC w0 base g c n caps f V N)
    (xs : List Int) (a m b : Nat) (w : World) (hN : b - a ≤ N + 1) (hV : AllV V xs) (hA : SA w0 base g c xs w) (hn : n = xs.length) (ham : a < m) (hmb : m < b) (hbn : b ≤ n) (hr1 : Ris f xs a m) (hr2 : Ris f xs m b) (_hm1 : m ≠ a + 1) (hb1 : b ≠ m + 1) (hmm0 : (a + b) / 2 < m) :
    Calls Try.prog 113 #[.slice (some ⟨g, 0, none⟩) n c, .int .i64 a, .int .i64 m, .int .i64 b, .func (.func 59) #[] caps] w fun e w' => e = .returned (.tuple #[]) ∧ ∃ ys, Ris f ys a b ∧ Rear a b xs ys ∧ SA w0 base g c ys w' := by
  have HE := Lib.hid hE
  have IH := Lib.hid ih
  have HV := Lib.hid hV
  have HA := Lib.hid hA
  have HN := Lib.hid hn
  have HR1 := Lib.hid hr1
  have HR2 := Lib.hid hr2
  clear hE ih hV hA hn hr1 hr2
  have t0 : ((m : Int) - (a : Int) == 1) = false := by rw [beq_eq_false_iff_ne]; omega
  have t1 : ((b : Int) - (m : Int) == 1) = false := by rw [beq_eq_false_iff_ne]; omega
  obtain ⟨mid, hmid⟩ : ∃ mid : Nat, ((a : Int) + (b : Int)) / 2 = mid := ⟨(a + b) / 2, by omega⟩
  have hmid1 : a < mid := by omega
  have hmid2 : mid < b := by omega
  have hmid3 : 2 * mid ≤ a + b := by omega
  have hmid4 : a + b ≤ 2 * mid + 1 := by omega
  obtain ⟨q, hq⟩ : ∃ q : Nat, (mid : Int) + (m : Int) = q := ⟨mid + m, by omega⟩
  obtain ⟨p, hp⟩ : ∃ p : Nat, (q : Int) - 1 = p := ⟨q - 1, by omega⟩
  have HPQ : Hid (q = mid + m ∧ q = p + 1) := by show _ ∧ _; omega
  have wq : IntKind.i64.wrap (q : Int) = q := IntWalk.i64_in _ (by omega)
  have hmm : mid < m := by omega
  clear hmm0 hb1
  obtain ⟨s0, hs0⟩ : ∃ s0 : Nat, (q : Int) - (b : Int) = s0 := ⟨q - b, by omega⟩
  have hs1 : a ≤ s0 := by omega
  have HZZ : Hid (s0 = q - b ∧ b ≤ q) := by show _ ∧ _; omega
  have hs2 : s0 ≤ mid := by omega
  have t2 : decide ((mid : Int) < (m : Int)) = true := decide_eq_true (by omega)
  go_enter Try.func113, Try.ntmps113
  go_wp2_with fail
  go_loopw [20, 21] (Se3I w0 base g c xs f q s0 mid) (fun v u _ => (intOf u).toNat - (intOf v).toNat)
  case atStart => exact ⟨s0, mid, rfl, rfl, by omega, by omega, by omega, ⟨.inl rfl, .inl rfl⟩, HA.out⟩
  case round =>
    obtain ⟨s, r, rfl, rfl, hi1, hij, hj1, HS, HSA⟩ := hrel
    by_cases hlt : s < r
    · obtain ⟨cc, hh⟩ : ∃ h : Nat, ((s : Int) + (r : Int)) / 2 = h := ⟨(s + r) / 2, by omega⟩
      have hh1 : s ≤ cc ∧ cc < r := by omega
      obtain ⟨hh1, hh2⟩ := hh1
      obtain ⟨d, hd⟩ : ∃ d : Nat, (p : Int) - (cc : Int) = d := ⟨p - cc, by omega⟩
      have HD : Hid (d = q - 1 - cc ∧ d = q - (cc + 1) ∧ d < n ∧ cc < n) := by show _ ∧ _; omega
      have hP : d < xs.length := by have := HN.out; have := HD.out; omega
      have hQ : cc < xs.length := by have := HN.out; have := HD.out; omega
      obtain ⟨⟨c1, c2⟩, hs, hsb, hcp, hfb⟩ := HSA.out.look HE.out HV.out hP hQ
      have HS2 := Lib.hid hs
      have HSB := Lib.hid hsb
      have CP := Lib.hid hcp
      obtain ⟨x, hx1⟩ : ∃ x, x = xs.getD (d) 0 := ⟨_, rfl⟩
      obtain ⟨y, hy1⟩ : ∃ x, x = xs.getD (cc) 0 := ⟨_, rfl⟩
      rw [← hx1] at c1 HS2 CP hfb
      rw [← hy1] at c2 HS2 CP hfb
      obtain ⟨F, hF⟩ : ∃ F, F = f x - f y := ⟨_, rfl⟩
      rw [← hF] at CP hfb
      have HX1 := Lib.hid hx1
      have HY1 := Lib.hid hy1
      have HF := Lib.hid hF
      obtain ⟨fb1, fb2⟩ := hfb
      have e1 : (0 : Int) ≤ (d : Int) := by omega
      have e2 : (d : Int) < n := by have := HD.out; omega
      have e3 : (0 : Int) ≤ (cc : Int) := by omega
      have e4 : (cc : Int) < n := by have := HD.out; omega
      have w1 : IntKind.i64.wrap (d : Int) = d := IntWalk.i64_in _ (by omega)
      have w2 : IntKind.i64.wrap (cc : Int) = cc := IntWalk.i64_in _ (by omega)
      clear hs hsb hcp hx1 hy1 hF hP hQ
      go_wp2_with fail
      go_region_held3 (fun w' => w'.cell? ⟨g, d, none⟩ = some (.int .i64 x) ∧ w'.cell? ⟨g, cc, none⟩ = some (.int .i64 y))
        ((exact HS2.out _ (by repeat (first | with_reducible exact Below.refl _ _ | with_reducible refine Below.drew ?_ | with_reducible assumption))))
        ((go_at_call 59; (with_reducible refine (CP.out _ (by repeat (first | with_reducible exact Below.refl _ _ | with_reducible refine Below.drew ?_ | with_reducible assumption))).mono ?_); rintro e w9 ⟨rfl, hb9⟩))
      have HW9 := Lib.hid (HSB.out w9 hb9)
      clear hb9 c1 c2
      by_cases hF0 : F < 0
      · have t3 : (!decide (F < 0)) = false := by rw [decide_eq_true hF0]; rfl
        rw [t3]
        clear t3
        have HS3 : Hid (Se3 f xs q s0 mid s cc) := ⟨HS.out.1, .inr (by have := HF.out; have := HD.out.1; rw [← this, ← HX1.out, ← HY1.out]; omega)⟩
        go_wp2_with fail
        go_roundw
        case rel => exact ⟨s, cc, rfl, rfl, by omega, by omega, by omega, HS3.out, HW9.out⟩
        case measure => simp [intOf]; omega
      · have t3 : (!decide (F < 0)) = true := by rw [decide_eq_false hF0]; rfl
        rw [t3]
        clear t3
        have HS3 : Hid (Se3 f xs q s0 mid (cc + 1) r) := ⟨.inr (by have := HF.out; have := HD.out.2.1; rw [← this, Nat.add_sub_cancel, ← HX1.out, ← HY1.out]; omega), HS.out.2⟩
        go_wp2_with fail
        go_roundw
        case rel => exact ⟨cc + 1, r, by go_num, rfl, by omega, by omega, by omega, HS3.out, HW9.out⟩
        case measure => simp [intOf]; omega
    · obtain rfl : s = r := by omega
      obtain ⟨e, he⟩ : ∃ e : Nat, (q : Int) - (s : Int) = e := ⟨q - s, by have := HPQ.out; omega⟩
      have HP1 : Hid (a ≤ s ∧ s ≤ m ∧ m ≤ e ∧ e ≤ b ∧ s ≤ mid ∧ mid ≤ e ∧ s + e = mid + m) := by show _ ∧ _; have := HPQ.out; omega
      have HAB : Hid (s = a ∨ e = b ∨ f (xs.getD (s - 1) 0) ≤ f (xs.getD e 0)) := by
        rcases HS.out.1 with h | h
        · have := HPQ.out; have := HZZ.out; show _ ∨ _; omega
        · rw [show q - s = e by omega] at h; exact .inr (.inr h)
      have HBA : Hid (s = m ∨ e = m ∨ f (xs.getD (e - 1) 0) < f (xs.getD s 0)) := by
        rcases HS.out.2 with h | h
        · have := HPQ.out; show _ ∨ _; omega
        · rw [show q - 1 - s = e - 1 by omega] at h; exact .inr (.inr h)
      clear hlt
      go_upto_region 38 with fail
      obtain ⟨W2, hW2⟩ : ∃ W2, W2 = wr := ⟨_, rfl⟩
      rw [← hW2] at HSA ⊢
      clear hW2
      go_cut [24] from 25 (fun v wx => v = .int .i64 e ∧ W2 = wx)
      case first =>
        go_wp2_with fail
        go_meet
        exact ⟨rfl, rfl⟩
      case rest =>
        obtain ⟨rfl, rfl⟩ := hcut
        go_step
        go_step
        go_cut [24] from 25 (fun v wx => v = .int .i64 e ∧ ∃ ys : List Int, (∀ p, ys.getD p 0 = rotF xs s m e p) ∧ Rear a b xs ys ∧ SA w0 base g c ys wx)
        case first =>
          by_cases hro : s < m
          · by_cases hro2 : m < e
            · have CP := Lib.hid (rotate_calls w0 base g c n xs s m e (.func (.func 59) #[] caps) W2 HSA.out HN.out hx hro hro2 (by have := HP1.out; omega))
              go_wp2_with fail
              refine CP.out.mono ?_
              rintro e1 w1 ⟨rfl, ys, hy, hr, hsa⟩
              have HY := Lib.hid hy
              have HRE := Lib.hid (hr.widen (c := a) (d := b) (by have := HP1.out; omega) (by have := HP1.out; omega))
              have HSA2 := Lib.hid hsa
              clear hy hr hsa
              go_wp2_with fail
              go_meet
              exact ⟨rfl, ys, HY.out, HRE.out, HSA2.out⟩
            · have HY := Lib.hid (rotF_none (xs := xs) (s := s) (m := m) (e := e) HP1.out.2.1 HP1.out.2.2.1 (by have := HP1.out; omega))
              go_wp2_with fail
              go_meet
              exact ⟨rfl, xs, HY.out, Rear.refl _ _ _, HSA.out⟩
          · have HY := Lib.hid (rotF_none (xs := xs) (s := s) (m := m) (e := e) HP1.out.2.1 HP1.out.2.2.1 (by have := HP1.out; omega))
            go_wp2_with fail
            go_meet
            exact ⟨rfl, xs, HY.out, Rear.refl _ _ _, HSA.out⟩
        case rest =>
          obtain ⟨rfl, ys, hy, hre, hsa⟩ := hcut
          have hyl : n = ys.length := by rw [hre.len]; exact HN.out
          have HYL := Lib.hid hyl
          have HVY := Lib.hid (HV.out.rear hre)
          have HRE := Lib.hid hre
          have HSA2 := Lib.hid hsa
          have HPT := Lib.hid (rot_parts HR1.out HR2.out hy HP1.out.1 HP1.out.2.1 HP1.out.2.2.1 HP1.out.2.2.2.1 HP1.out.2.2.2.2.2.2 HAB.out HBA.out)
          clear hy hre hsa hyl
          go_step
          go_step
          go_cut [24] from 25 (fun v wx => v = .int .i64 e ∧ ∃ zs : List Int, Ris f zs a mid ∧ Rear a mid ys zs ∧ SA w0 base g c zs wx)
          case first =>
            by_cases h1 : a < s
            · by_cases h2 : s < mid
              · have CP := Lib.hid (IH.out ys a s mid wc (by omega) HVY.out HSA2.out HYL.out h1 h2 (by omega) HPT.out.1 HPT.out.2.1)
                go_wp2_with fail
                refine CP.out.mono ?_
                rintro e1 w1 ⟨rfl, zs, hz, hr, hsa⟩
                have HZ := Lib.hid hz
                have HRE2 := Lib.hid hr
                have HSA3 := Lib.hid hsa
                clear hz hr hsa
                go_wp2_with fail
                go_meet
                exact ⟨rfl, zs, HZ.out, HRE2.out, HSA3.out⟩
              · have HZ : Hid (Ris f ys a mid) := HPT.out.1.part (Nat.le_refl _) (by have := HP1.out; omega)
                go_wp2_with fail
                go_meet
                exact ⟨rfl, ys, HZ.out, Rear.refl _ _ _, HSA2.out⟩
            · have HZ : Hid (Ris f ys a mid) := HPT.out.2.1.part (by have := HP1.out; omega) (Nat.le_refl _)
              go_wp2_with fail
              go_meet
              exact ⟨rfl, ys, HZ.out, Rear.refl _ _ _, HSA2.out⟩
          case rest =>
            obtain ⟨rfl, zs, hz, hre, hsa⟩ := hcut
            have hzl : n = zs.length := by rw [hre.len]; exact HYL.out
            have HZL := Lib.hid hzl
            have HVZ := Lib.hid (HVY.out.rear hre)
            have HRE2 := Lib.hid hre
            have HZ := Lib.hid hz
            have HSA3 := Lib.hid hsa
            have HP5 : Hid (Ris f zs mid e ∧ Ris f zs e b) := ⟨HPT.out.2.2.1.keep hre (.inr (Nat.le_refl _)), HPT.out.2.2.2.1.keep hre (.inr (by have := HP1.out; omega))⟩
            clear hz hre hsa hzl
            by_cases h1 : mid < e
            · by_cases h2 : e < b
              · have CP := Lib.hid (IH.out zs mid e b _ (by omega) HVZ.out HSA3.out HZL.out h1 h2 hbn HP5.out.1 HP5.out.2)
                go_wp2_with fail
                refine CP.out.mono ?_
                rintro e1 w1 ⟨rfl, vs, hv, hr, hsa⟩
                have HW := Lib.hid (ris_join HZ.out HRE2.out hv hr HPT.out.2.2.2.2)
                have HRE4 := Lib.hid (HRE.out.trans ((HRE2.out.widen (Nat.le_refl _) (by omega)).trans (hr.widen (by omega) (Nat.le_refl _))))
                have HSA4 := Lib.hid hsa
                clear hv hr hsa
                go_wp2_with fail
                go_end0
                exact ⟨rfl, vs, HW.out, HRE4.out, HSA4.out⟩
              · have HW := Lib.hid (ris_join HZ.out HRE2.out (HP5.out.1.part (Nat.le_refl _) (by omega : b ≤ e)) (Rear.refl _ _ _) HPT.out.2.2.2.2)
                have HRE4 := Lib.hid (HRE.out.trans (HRE2.out.widen (Nat.le_refl _) (by omega)))
                go_wp2_with fail
                go_end0
                exact ⟨rfl, zs, HW.out, HRE4.out, HSA3.out⟩
            · have HW := Lib.hid (ris_join HZ.out HRE2.out (HP5.out.2.part (by omega : e ≤ mid) (Nat.le_refl _)) (Rear.refl _ _ _) HPT.out.2.2.2.2)
              have HRE4 := Lib.hid (HRE.out.trans (HRE2.out.widen (Nat.le_refl _) (by omega)))
              go_wp2_with fail
              go_end0
              exact ⟨rfl, zs, HW.out, HRE4.out, HSA3.out⟩
set_option maxHeartbeats 8000000 in
theorem sym_case4 (w0 : World) (base g c n : Nat) (caps : Array Value) (f : Int → Int) (V : Int → Prop) (hE : SEnv w0 base caps f V) (hx : n ≤ 1000) (N : Nat) (ih : SymC w0 base g c n caps f V N)
    (xs : List Int) (a m b : Nat) (w : World) (hN : b - a ≤ N + 1) (hV : AllV V xs) (hA : SA w0 base g c xs w) (hn : n = xs.length) (ham : a < m) (hmb : m < b) (hbn : b ≤ n) (hr1 : Ris f xs a m) (hr2 : Ris f xs m b) (hm1 : m ≠ a + 1) (hb1 : b ≠ m + 1) (hmm0 : ¬ (a + b) / 2 < m) :
    Calls Try.prog 113 #[.slice (some ⟨g, 0, none⟩) n c, .int .i64 a, .int .i64 m, .int .i64 b, .func (.func 59) #[] caps] w fun e w' => e = .returned (.tuple #[]) ∧ ∃ ys, Ris f ys a b ∧ Rear a b xs ys ∧ SA w0 base g c ys w' := by
  have HE := Lib.hid hE
  have IH := Lib.hid ih
  have HV := Lib.hid hV
  have HA := Lib.hid hA
  have HN := Lib.hid hn
  have HR1 := Lib.hid hr1
  have HR2 := Lib.hid hr2
  clear hE ih hV hA hn hr1 hr2
  have t0 : ((m : Int) - (a : Int) == 1) = false := by rw [beq_eq_false_iff_ne]; omega
  have t1 : ((b : Int) - (m : Int) == 1) = false := by rw [beq_eq_false_iff_ne]; omega
  obtain ⟨mid, hmid⟩ : ∃ mid : Nat, ((a : Int) + (b : Int)) / 2 = mid := ⟨(a + b) / 2, by omega⟩
  have hmid1 : a < mid := by omega
  have hmid2 : mid < b := by omega
  have hmid3 : 2 * mid ≤ a + b := by omega
  have hmid4 : a + b ≤ 2 * mid + 1 := by omega
  obtain ⟨q, hq⟩ : ∃ q : Nat, (mid : Int) + (m : Int) = q := ⟨mid + m, by omega⟩
  obtain ⟨p, hp⟩ : ∃ p : Nat, (q : Int) - 1 = p := ⟨q - 1, by omega⟩
  have HPQ : Hid (q = mid + m ∧ q = p + 1) := by show _ ∧ _; omega
  have wq : IntKind.i64.wrap (q : Int) = q := IntWalk.i64_in _ (by omega)
  have hmm : ¬ mid < m := by omega
  clear hmm0 hm1 hb1
  have HZZ : Hid (a + 0 = a) := rfl
  have t2 : decide ((mid : Int) < (m : Int)) = false := decide_eq_false (by omega)
  go_enter Try.func113, Try.ntmps113
  go_wp2_with fail
  go_loopw [20, 21] (Se3I w0 base g c xs f q a m) (fun v u _ => (intOf u).toNat - (intOf v).toNat)
  case atStart => exact ⟨a, m, rfl, rfl, by omega, by omega, by omega, ⟨.inl rfl, .inl rfl⟩, HA.out⟩
  case round =>
    obtain ⟨s, r, rfl, rfl, hi1, hij, hj1, HS, HSA⟩ := hrel
    by_cases hlt : s < r
    · obtain ⟨cc, hh⟩ : ∃ h : Nat, ((s : Int) + (r : Int)) / 2 = h := ⟨(s + r) / 2, by omega⟩
      have hh1 : s ≤ cc ∧ cc < r := by omega
      obtain ⟨hh1, hh2⟩ := hh1
      obtain ⟨d, hd⟩ : ∃ d : Nat, (p : Int) - (cc : Int) = d := ⟨p - cc, by omega⟩
      have HD : Hid (d = q - 1 - cc ∧ d = q - (cc + 1) ∧ d < n ∧ cc < n) := by show _ ∧ _; omega
      have hP : d < xs.length := by have := HN.out; have := HD.out; omega
      have hQ : cc < xs.length := by have := HN.out; have := HD.out; omega
      obtain ⟨⟨c1, c2⟩, hs, hsb, hcp, hfb⟩ := HSA.out.look HE.out HV.out hP hQ
      have HS2 := Lib.hid hs
      have HSB := Lib.hid hsb
      have CP := Lib.hid hcp
      obtain ⟨x, hx1⟩ : ∃ x, x = xs.getD (d) 0 := ⟨_, rfl⟩
      obtain ⟨y, hy1⟩ : ∃ x, x = xs.getD (cc) 0 := ⟨_, rfl⟩
      rw [← hx1] at c1 HS2 CP hfb
      rw [← hy1] at c2 HS2 CP hfb
      obtain ⟨F, hF⟩ : ∃ F, F = f x - f y := ⟨_, rfl⟩
      rw [← hF] at CP hfb
      have HX1 := Lib.hid hx1
      have HY1 := Lib.hid hy1
      have HF := Lib.hid hF
      obtain ⟨fb1, fb2⟩ := hfb
      have e1 : (0 : Int) ≤ (d : Int) := by omega
      have e2 : (d : Int) < n := by have := HD.out; omega
      have e3 : (0 : Int) ≤ (cc : Int) := by omega
      have e4 : (cc : Int) < n := by have := HD.out; omega
      have w1 : IntKind.i64.wrap (d : Int) = d := IntWalk.i64_in _ (by omega)
      have w2 : IntKind.i64.wrap (cc : Int) = cc := IntWalk.i64_in _ (by omega)
      clear hs hsb hcp hx1 hy1 hF hP hQ
      go_wp2_with fail
      go_region_held3 (fun w' => w'.cell? ⟨g, d, none⟩ = some (.int .i64 x) ∧ w'.cell? ⟨g, cc, none⟩ = some (.int .i64 y))
        ((exact HS2.out _ (by repeat (first | with_reducible exact Below.refl _ _ | with_reducible refine Below.drew ?_ | with_reducible assumption))))
        ((go_at_call 59; (with_reducible refine (CP.out _ (by repeat (first | with_reducible exact Below.refl _ _ | with_reducible refine Below.drew ?_ | with_reducible assumption))).mono ?_); rintro e w9 ⟨rfl, hb9⟩))
      have HW9 := Lib.hid (HSB.out w9 hb9)
      clear hb9 c1 c2
      by_cases hF0 : F < 0
      · have t3 : (!decide (F < 0)) = false := by rw [decide_eq_true hF0]; rfl
        rw [t3]
        clear t3
        have HS3 : Hid (Se3 f xs q a m s cc) := ⟨HS.out.1, .inr (by have := HF.out; have := HD.out.1; rw [← this, ← HX1.out, ← HY1.out]; omega)⟩
        go_wp2_with fail
        go_roundw
        case rel => exact ⟨s, cc, rfl, rfl, by omega, by omega, by omega, HS3.out, HW9.out⟩
        case measure => simp [intOf]; omega
      · have t3 : (!decide (F < 0)) = true := by rw [decide_eq_false hF0]; rfl
        rw [t3]
        clear t3
        have HS3 : Hid (Se3 f xs q a m (cc + 1) r) := ⟨.inr (by have := HF.out; have := HD.out.2.1; rw [← this, Nat.add_sub_cancel, ← HX1.out, ← HY1.out]; omega), HS.out.2⟩
        go_wp2_with fail
        go_roundw
        case rel => exact ⟨cc + 1, r, by go_num, rfl, by omega, by omega, by omega, HS3.out, HW9.out⟩
        case measure => simp [intOf]; omega
    · obtain rfl : s = r := by omega
      obtain ⟨e, he⟩ : ∃ e : Nat, (q : Int) - (s : Int) = e := ⟨q - s, by have := HPQ.out; omega⟩
      have HP1 : Hid (a ≤ s ∧ s ≤ m ∧ m ≤ e ∧ e ≤ b ∧ s ≤ mid ∧ mid ≤ e ∧ s + e = mid + m) := by show _ ∧ _; have := HPQ.out; omega
      have HAB : Hid (s = a ∨ e = b ∨ f (xs.getD (s - 1) 0) ≤ f (xs.getD e 0)) := by
        rcases HS.out.1 with h | h
        · have := HPQ.out; have := HZZ.out; show _ ∨ _; omega
        · rw [show q - s = e by omega] at h; exact .inr (.inr h)
      have HBA : Hid (s = m ∨ e = m ∨ f (xs.getD (e - 1) 0) < f (xs.getD s 0)) := by
        rcases HS.out.2 with h | h
        · have := HPQ.out; show _ ∨ _; omega
        · rw [show q - 1 - s = e - 1 by omega] at h; exact .inr (.inr h)
      clear hlt
      go_upto_region 38 with fail
      obtain ⟨W2, hW2⟩ : ∃ W2, W2 = wr := ⟨_, rfl⟩
      rw [← hW2] at HSA ⊢
      clear hW2
      go_cut [24] from 25 (fun v wx => v = .int .i64 e ∧ W2 = wx)
      case first =>
        go_wp2_with fail
        go_meet
        exact ⟨rfl, rfl⟩
      case rest =>
        obtain ⟨rfl, rfl⟩ := hcut
        go_step
        go_step
        go_cut [24] from 25 (fun v wx => v = .int .i64 e ∧ ∃ ys : List Int, (∀ p, ys.getD p 0 = rotF xs s m e p) ∧ Rear a b xs ys ∧ SA w0 base g c ys wx)
        case first =>
          by_cases hro : s < m
          · by_cases hro2 : m < e
            · have CP := Lib.hid (rotate_calls w0 base g c n xs s m e (.func (.func 59) #[] caps) W2 HSA.out HN.out hx hro hro2 (by have := HP1.out; omega))
              go_wp2_with fail
              refine CP.out.mono ?_
              rintro e1 w1 ⟨rfl, ys, hy, hr, hsa⟩
              have HY := Lib.hid hy
              have HRE := Lib.hid (hr.widen (c := a) (d := b) (by have := HP1.out; omega) (by have := HP1.out; omega))
              have HSA2 := Lib.hid hsa
              clear hy hr hsa
              go_wp2_with fail
              go_meet
              exact ⟨rfl, ys, HY.out, HRE.out, HSA2.out⟩
            · have HY := Lib.hid (rotF_none (xs := xs) (s := s) (m := m) (e := e) HP1.out.2.1 HP1.out.2.2.1 (by have := HP1.out; omega))
              go_wp2_with fail
              go_meet
              exact ⟨rfl, xs, HY.out, Rear.refl _ _ _, HSA.out⟩
          · have HY := Lib.hid (rotF_none (xs := xs) (s := s) (m := m) (e := e) HP1.out.2.1 HP1.out.2.2.1 (by have := HP1.out; omega))
            go_wp2_with fail
            go_meet
            exact ⟨rfl, xs, HY.out, Rear.refl _ _ _, HSA.out⟩
        case rest =>
          obtain ⟨rfl, ys, hy, hre, hsa⟩ := hcut
          have hyl : n = ys.length := by rw [hre.len]; exact HN.out
          have HYL := Lib.hid hyl
          have HVY := Lib.hid (HV.out.rear hre)
          have HRE := Lib.hid hre
          have HSA2 := Lib.hid hsa
          have HPT := Lib.hid (rot_parts HR1.out HR2.out hy HP1.out.1 HP1.out.2.1 HP1.out.2.2.1 HP1.out.2.2.2.1 HP1.out.2.2.2.2.2.2 HAB.out HBA.out)
          clear hy hre hsa hyl
          go_step
          go_step
          go_cut [24] from 25 (fun v wx => v = .int .i64 e ∧ ∃ zs : List Int, Ris f zs a mid ∧ Rear a mid ys zs ∧ SA w0 base g c zs wx)
          case first =>
            by_cases h1 : a < s
            · by_cases h2 : s < mid
              · have CP := Lib.hid (IH.out ys a s mid wc (by omega) HVY.out HSA2.out HYL.out h1 h2 (by omega) HPT.out.1 HPT.out.2.1)
                go_wp2_with fail
                refine CP.out.mono ?_
                rintro e1 w1 ⟨rfl, zs, hz, hr, hsa⟩
                have HZ := Lib.hid hz
                have HRE2 := Lib.hid hr
                have HSA3 := Lib.hid hsa
                clear hz hr hsa
                go_wp2_with fail
                go_meet
                exact ⟨rfl, zs, HZ.out, HRE2.out, HSA3.out⟩
              · have HZ : Hid (Ris f ys a mid) := HPT.out.1.part (Nat.le_refl _) (by have := HP1.out; omega)
                go_wp2_with fail
                go_meet
                exact ⟨rfl, ys, HZ.out, Rear.refl _ _ _, HSA2.out⟩
            · have HZ : Hid (Ris f ys a mid) := HPT.out.2.1.part (by have := HP1.out; omega) (Nat.le_refl _)
              go_wp2_with fail
              go_meet
              exact ⟨rfl, ys, HZ.out, Rear.refl _ _ _, HSA2.out⟩
          case rest =>
            obtain ⟨rfl, zs, hz, hre, hsa⟩ := hcut
            have hzl : n = zs.length := by rw [hre.len]; exact HYL.out
            have HZL := Lib.hid hzl
            have HVZ := Lib.hid (HVY.out.rear hre)
            have HRE2 := Lib.hid hre
            have HZ := Lib.hid hz
            have HSA3 := Lib.hid hsa
            have HP5 : Hid (Ris f zs mid e ∧ Ris f zs e b) := ⟨HPT.out.2.2.1.keep hre (.inr (Nat.le_refl _)), HPT.out.2.2.2.1.keep hre (.inr (by have := HP1.out; omega))⟩
            clear hz hre hsa hzl
            by_cases h1 : mid < e
            · by_cases h2 : e < b
              · have CP := Lib.hid (IH.out zs mid e b _ (by omega) HVZ.out HSA3.out HZL.out h1 h2 hbn HP5.out.1 HP5.out.2)
                go_wp2_with fail
                refine CP.out.mono ?_
                rintro e1 w1 ⟨rfl, vs, hv, hr, hsa⟩
                have HW := Lib.hid (ris_join HZ.out HRE2.out hv hr HPT.out.2.2.2.2)
                have HRE4 := Lib.hid (HRE.out.trans ((HRE2.out.widen (Nat.le_refl _) (by omega)).trans (hr.widen (by omega) (Nat.le_refl _))))
                have HSA4 := Lib.hid hsa
                clear hv hr hsa
                go_wp2_with fail
                go_end0
                exact ⟨rfl, vs, HW.out, HRE4.out, HSA4.out⟩
              · have HW := Lib.hid (ris_join HZ.out HRE2.out (HP5.out.1.part (Nat.le_refl _) (by omega : b ≤ e)) (Rear.refl _ _ _) HPT.out.2.2.2.2)
                have HRE4 := Lib.hid (HRE.out.trans (HRE2.out.widen (Nat.le_refl _) (by omega)))
                go_wp2_with fail
                go_end0
                exact ⟨rfl, zs, HW.out, HRE4.out, HSA3.out⟩
            · have HW := Lib.hid (ris_join HZ.out HRE2.out (HP5.out.2.part (by omega : e ≤ mid) (Nat.le_refl _)) (Rear.refl _ _ _) HPT.out.2.2.2.2)
              have HRE4 := Lib.hid (HRE.out.trans (HRE2.out.widen (Nat.le_refl _) (by omega)))
              go_wp2_with fail
              go_end0
              exact ⟨rfl, zs, HW.out, HRE4.out, HSA3.out⟩
theorem symMerge_calls (w0 : World) (base g c n : Nat) (caps : Array Value) (f : Int → Int) (V : Int → Prop) (hE : SEnv w0 base caps f V) (hx : n ≤ 1000) (N : Nat) : SymC w0 base g c n caps f V N := by
  induction N with
  | zero => intro xs a m b w h1 _ _ _ h2 h3 _ _ _; omega
  | succ N ih =>
    intro xs a m b w hN hV hA hn ham hmb hbn hr1 hr2
    by_cases hm1 : m = a + 1
    · exact sym_case1 w0 base g c n caps f V hE hx N ih xs a m b w hN hV hA hn ham hmb hbn hr1 hr2 hm1
    · by_cases hb1 : b = m + 1
      · exact sym_case2 w0 base g c n caps f V hE hx N ih xs a m b w hN hV hA hn ham hmb hbn hr1 hr2 hm1 hb1
      · by_cases hmm : (a + b) / 2 < m
        · exact sym_case3 w0 base g c n caps f V hE hx N ih xs a m b w hN hV hA hn ham hmb hbn hr1 hr2 hm1 hb1 hmm
        · exact sym_case4 w0 base g c n caps f V hE hx N ih xs a m b w hN hV hA hn ham hmb hbn hr1 hr2 hm1 hb1 hmm
end Go.Proofs.Ythnhmfmlhlpggaa
