/- What is proved: the reference's Calls. No condition beyond those in each statement. -/
import Derived.Test.YtahjgdikjaakbaaPg
namespace Go.Proofs.Ytahjgdikjaakbaa
open Go.RowKit

theorem rowL_congr {f g : Nat → Nat → List Msg} {a n : Nat} (h : ∀ b, b < n → f a b = g a b) : rowL f a n = rowL g a n := by
  induction n with
  | zero => rfl
  | succ n ih =>
    show rowL f a n ++ mkL a n (f a n) = rowL g a n ++ mkL a n (g a n)
    rw [ih (fun b hb => h b (by omega)), h n (by omega)]
theorem colL_congr {f g : Nat → Nat → List Msg} {n k : Nat} (h : ∀ a b, a < k → b < n → f a b = g a b) : colL f n k = colL g n k := by
  induction k with
  | zero => rfl
  | succ k ih =>
    show colL f n k ++ rowL f k n = colL g n k ++ rowL g k n
    rw [ih (fun a b ha hb => h a b (by omega) hb), rowL_congr (fun b hb => h k b (by omega) hb)]
theorem fltR_step {l : List Cal} {k a b ca cb : Nat} {cm : Msg} {hk : k < l.length} (hc : l[k] = (ca, cb, cm)) : fltR (l.take (k + 1)) a b = if ca = a ∧ cb = b then fltR (l.take k) a b ++ [cm] else fltR (l.take k) a b := by
  rw [List.take_succ_eq_append_getElem hk, hc, fltR_app]
  by_cases e : ca = a ∧ cb = b
  · obtain ⟨rfl, rfl⟩ := e
    rw [if_pos ⟨rfl, rfl⟩, fltR_same]
  · rw [if_neg e, fltR_other cm (fun h => e ⟨h.1.symm, h.2.symm⟩), List.append_nil]
theorem fltR_le (l : List Cal) (k a b : Nat) : (fltR (l.take k) a b).length ≤ (fltR l a b).length := by
  have : fltR l a b = fltR (l.take k) a b ++ fltR (l.drop k) a b := by rw [← fltR_app, List.take_append_drop]
  rw [this, List.length_append]
  omega
section
variable {w : World} {R : Nat} {t : TS} {l : List Cal} {m : RM}
def C1 (w : World) (n : Nat) (l : List Cal) (u3 u4 : Value) (wr : World) : Prop := ∃ a : Nat, u4 = .int .i64 a ∧ a ≤ n ∧ OwC wr w.heap.size u3 (colL (fltR l) n a) ∧ Below w.heap.size w wr
def C2 (w : World) (n : Nat) (l : List Cal) (a : Nat) (u3 u5 : Value) (wr : World) : Prop := ∃ b : Nat, u5 = .int .i64 b ∧ b ≤ n ∧ OwC wr w.heap.size u3 (colL (fltR l) n a ++ rowL (fltR l) a b) ∧ Below w.heap.size w wr
def C3 (w : World) (n : Nat) (l : List Cal) (a b : Nat) (u3 u6 : Value) (wr : World) : Prop := ∃ k : Nat, u6 = .int .i64 k ∧ k ≤ l.length ∧ OwC wr w.heap.size u3 (colL (fltR l) n a ++ rowL (fltR l) a b ++ mkL a b (fltR (l.take k) a b)) ∧ Below w.heap.size w wr
set_option maxRecDepth 100000 in
set_option maxHeartbeats 8000000 in
theorem refcalls_calls (h : RLow w R t l m) (F : Flt l t) (hn6 : t.n ≤ 6) (hll : l.length ≤ 80000) (hl : t.cals.length ≤ 80000) :
    Calls Try.prog 36 #[.pointer (some ⟨R, 0, none⟩)] w fun e w' => ∃ v, e = .returned v ∧ OwC w' w.heap.size v t.cals ∧ Below w.heap.size w w' := by
  have hcal : t.cals = colL (fltR l) t.n t.n := colL_congr fun a b ha hb => (F.fl a b ha hb).symm
  rw [hcal] at hl ⊢
  obtain ⟨n, hn⟩ : ∃ n, n = t.n := ⟨_, rfl⟩
  rw [← hn] at hl hn6 ⊢
  have c0 := h.cells.1
  rw [← hn] at c0
  obtain ⟨A, c, hfv, hc1, hc2, _, hrd, _⟩ := h.hF.rd
  have c5 := h.cells.2.2.2.2.2.1
  rw [hfv] at c5
  obtain ⟨L, hL⟩ : ∃ L, L = l.length := ⟨_, rfl⟩
  rw [← hL] at c5 hc1 hll
  have hRl : R < w.heap.size := h.lt .T R rfl
  have HL := Lib.hid hL
  have HLL := Lib.hid hl
  have HRD := Lib.hid hrd
  have K0 := Lib.hid c0
  have K5 := Lib.hid c5
  clear h F hcal hn hfv hrd hL hl c5 c0
  go_enter Try.func36, Try.ntmps36
  go_wp2_with fail
  go_loopw [3, 4, 5, 6, 7] (fun u3 u4 _ _ _ wr => C1 w n l u3 u4 wr) (fun _ u4 _ _ _ _ => n - (intOf u4).toNat)
  case atStart => exact ⟨0, rfl, Nat.zero_le _, ⟨rfl, .inr ⟨w.heap.size, 0, #[], rfl, Nat.le_refl _, World.alloc_heap_new w _, Nat.le_refl _, by simp, rfl, rfl⟩⟩, (Below.refl _ _).alloc (Nat.le_refl _) _⟩
  case round =>
    obtain ⟨a, rfl, ha, ho, hb⟩ := hrel
    have HO := Lib.hid ho
    have HB := Lib.hid hb
    have c0 := (hb.cell (p := ⟨R, 0, none⟩) hRl).trans K0.out
    by_cases hlt : a < n
    · clear ho hb
      go_wp2_with fail
      go_loopw [3, 5, 6, 7] (fun u3 u5 _ _ wr => C2 w n l a u3 u5 wr) (fun _ u5 _ _ _ => n - (intOf u5).toNat)
      case atStart => exact ⟨0, rfl, Nat.zero_le _, by show OwC _ _ _ (colL (fltR l) n a ++ []); rw [List.append_nil]; exact HO.out, HB.out⟩
      case round =>
        clear c0
        obtain ⟨wm, hwm⟩ : ∃ x, x = wr := ⟨_, rfl⟩
        subst hwm
        obtain ⟨b, rfl, hb2, ho, hb⟩ := hrel
        have HO := Lib.hid ho
        have HB := Lib.hid hb
        have c0 := (hb.cell (p := ⟨R, 0, none⟩) hRl).trans K0.out
        by_cases hlt2 : b < n
        · clear ho hb
          go_wp2_with fail
          go_loopw [3, 6, 7] (fun u3 u6 _ wr => C3 w n l a b u3 u6 wr) (fun _ u6 _ _ => L - (intOf u6).toNat)
          case atStart => exact ⟨0, rfl, Nat.zero_le _, by show OwC _ _ _ (colL (fltR l) n a ++ rowL (fltR l) a b ++ []); rw [List.append_nil]; exact HO.out, HB.out⟩
          case round =>
            clear c0
            obtain ⟨k, rfl, hk, ho, hb⟩ := hrel
            rw [← HL.out] at hk
            have HO := Lib.hid ho
            have HB := Lib.hid hb
            have c5 := (hb.cell (p := ⟨R, 5, none⟩) hRl).trans K5.out
            by_cases hkl : k < L
            · obtain ⟨ca, cb, cm, hcc⟩ : ∃ ca cb cm, l[k]'(by rw [← HL.out]; exact hkl) = (ca, cb, cm) := ⟨_, _, _, rfl⟩
              have hpre : (colL (fltR l) n a ++ rowL (fltR l) a b ++ mkL a b (fltR (l.take k) a b)).length ≤ 100000 := by
                have h1 := colL_le (fltR l) n (b := a + 1) (c := n) hlt
                have h2 := rowL_le (fltR l) a (b := b + 1) (c := n) hlt2
                have h3 : (colL (fltR l) n (a + 1)).length = (colL (fltR l) n a).length + (rowL (fltR l) a n).length := by show (colL (fltR l) n a ++ rowL (fltR l) a n).length = _; rw [List.length_append]
                have h4 : (rowL (fltR l) a (b + 1)).length = (rowL (fltR l) a b).length + (fltR l a b).length := by show (rowL (fltR l) a b ++ mkL a b (fltR l a b)).length = _; rw [List.length_append, mkL, List.length_map]
                have := HLL.out
                have h5 := fltR_le l k a b
                simp only [List.length_append, mkL, List.length_map] at *
                omega
              have hst := fltR_step (a := a) (b := b) hcc
              obtain ⟨g, o, rfl, hgl, y0, y1, y2, y3⟩ := (HRD.out.below hb).at k (by rw [← HL.out]; exact hkl)
              rw [hcc] at y0 y1 y2 y3
              obtain ⟨tk, htk⟩ : ∃ tk, tk = cm.isTok := ⟨_, rfl⟩
              obtain ⟨no, hno2⟩ : ∃ no, no = cm.num := ⟨_, rfl⟩
              simp only at y0 y1 y2 y3
              rw [← htk] at y2
              rw [← hno2] at y3
              have hsz : (wr.alloc (.cells #[.int .i64 ca, .int .i64 cb, .bool tk, .int .i64 no] 32)).heap.size = wr.heap.size + 1 := by simp
              have hb1 : Below w.heap.size w (wr.alloc (.cells #[.int .i64 ca, .int .i64 cb, .bool tk, .int .i64 no] 32)) := hb.alloc hb.size _
              have hbr : Below wr.heap.size wr (wr.alloc (.cells #[.int .i64 ca, .int .i64 cb, .bool tk, .int .i64 no] 32)) := (Below.refl _ _).alloc (Nat.le_refl _) _
              obtain ⟨A', n', c', w5, hrun, ho5, hb5⟩ := owc_push (ca, cb, cm) (ho.below hbr) hb1.size hpre
              simp only at hrun
              rw [← htk, ← hno2, hsz] at hrun
              have HRUN := Lib.hid hrun
              have HO5 := Lib.hid ho5
              have HB5 := Lib.hid (hb1.trans hb5)
              have HST := Lib.hid hst
              have HO1 := Lib.hid (ho.below hbr)
              have HB1 := Lib.hid hb1
              have zk : (0 : Int) ≤ (k : Int) ∧ (k : Int) < L := by omega
              clear ho hb hrun ho5 hb5 hst hb1 hbr hcc htk hno2 hpre
              by_cases hm1 : ca = a
              · by_cases hm2 : cb = b
                · subst hm1
                  subst hm2
                  go_wp2_with (at_builtin; refine wpList_app rfl (.tmp 53) (.tmp 55) 29 29 rfl rfl _ _ rfl rfl HRUN.out ?_)
                  go_roundw
                  case rel =>
                    refine ⟨k + 1, by go_num, by have := HL.out; omega, ?_, HB5.out⟩
                    rw [HST.out, if_pos ⟨rfl, rfl⟩]
                    have := HO5.out
                    rw [List.append_assoc] at this
                    unfold mkL at this ⊢
                    rw [List.map_append]
                    exact this
                  case measure => simp [intOf]; omega
                · have hm2' : ¬ (cb : Int) = b := by omega
                  subst hm1
                  go_wp2_with fail
                  go_roundw
                  case rel => exact ⟨k + 1, by go_num, by have := HL.out; omega, by rw [HST.out, if_neg (fun e => hm2 e.2)]; exact HO1.out, HB1.out⟩
                  case measure => simp [intOf]; omega
              · have hm1' : ¬ (ca : Int) = a := by omega
                go_wp2_with fail
                go_roundw
                case rel => exact ⟨k + 1, by go_num, by have := HL.out; omega, by rw [HST.out, if_neg (fun e => hm1 e.1)]; exact HO1.out, HB1.out⟩
                case measure => simp [intOf]; omega
            · have hkk : k = L := by omega
              subst hkk
              clear ho hb
              go_wp2_with fail
              go_roundw
              case rel =>
                refine ⟨b + 1, by go_num, by omega, ?_, HB.out⟩
                have := HO.out
                rw [List.take_of_length_le (by have := HL.out; omega), List.append_assoc] at this
                exact this
              case measure => simp [intOf]; omega
        · have hbn : b = n := by omega
          subst hbn
          clear ho hb
          go_wp2_with fail
          go_roundw
          case rel => exact ⟨a + 1, by go_num, by omega, HO.out, HB.out⟩
          case measure => simp [intOf]; omega
    · have han : a = n := by omega
      subst han
      clear ho hb
      go_wp2_with fail
      go_ret
      exact ⟨_, rfl, HO.out, HB.out⟩
end
end Go.Proofs.Ytahjgdikjaakbaa
