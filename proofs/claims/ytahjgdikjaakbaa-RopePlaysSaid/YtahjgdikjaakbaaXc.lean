/- What is proved: the reference's Want. No condition beyond those in each statement. -/
import Derived.Test.YtahjgdikjaakbaaXb
namespace Go.Proofs.Ytahjgdikjaakbaa
open Go.RowKit

/-- The same tower to the reference: all but the messages. -/
structure Alk (t t' : TS) : Prop where
  n : t'.n = t.n
  m : t'.mood = t.mood
  k : t'.known = t.known
  h : t'.holder = t.holder
  s : t'.served = t.served
  q : t'.queue = t.queue
  e : t'.sent = t.sent
theorem RLow.alk {w : World} {R : Nat} {t t' : TS} {l : List Cal} {m : RM} (h : RLow w R t l m) (a : Alk t t') : RLow w R t' l m := by
  refine ⟨?_, by rw [a.n, a.m]; exact h.hS, by rw [a.n]; exact h.hB, by rw [a.n, a.s]; exact h.hV, by rw [a.n, a.k]; exact h.hK, by rw [a.q]; exact h.hQ, h.hF, by rw [a.n]; exact h.inj⟩
  have : refC t' m = refC t m := by unfold refC; rw [a.n, a.h, a.e]
  rw [this]
  exact h.hT
theorem RMv.alk {w w' : World} {R n : Nat} {t t' : TS} {l : List Cal} {m m' : RM} (h : RMv R n m w t l m' w') (a : Alk t t') : RMv R n m w t' l m' w' := ⟨h.low.alk a, a.n.trans h.en, h.off, h.sub⟩
theorem RMv.step {w w' w1 : World} {R n : Nat} {t' t2 : TS} {l' l2 : List Cal} {m m' m2 : RM} (h : RMv R n m w t' l' m' w') (k : RMv R t'.n m' w' t2 l2 m2 w1) : RMv R n m w t2 l2 m2 w1 := by
  obtain rfl := h.en
  exact h.trans k
/-- The requests to those below k. -/
def reqL (i : Nat) (no : Int) : Nat → List Cal
  | 0 => []
  | k + 1 => if k = i then reqL i no k else reqL i no k ++ [(i, k, .req no)]
theorem reqL_len (i : Nat) (no : Int) (k : Nat) : (reqL i no k).length ≤ k := by
  induction k with
  | zero => exact Nat.le_refl _
  | succ k ih => unfold reqL; split; omega; rw [List.length_append, List.length_singleton]; omega
def TS.wantL (t : TS) (l : List Cal) (i : Int) : List Cal := if thereB t.n i = true then (if t.m i.toNat = 0 then (if t.holder = i then l else l ++ reqL i.toNat (t.k i.toNat i.toNat + 1) t.n) else l) else l
section
variable {w w' : World} {R n : Nat} {t : TS} {l : List Cal} {m m' : RM}
def RwI (R : Nat) (m : RM) (w : World) (n : Nat) (t1 : TS) (l : List Cal) (i : Nat) (no : Int) (v : Value) (wr : World) : Prop := ∃ (k : Nat) (m' : RM), v = .int .i64 k ∧ k ≤ n ∧ RMv R n m w { t1 with sent := t1.sent + cntW i k } (l ++ reqL i no k) m' wr
theorem rwi_zero (t1 : TS) (l : List Cal) (i : Nat) (no : Int) : RMv R n m w { t1 with sent := t1.sent + cntW i 0 } (l ++ reqL i no 0) m' w' = RMv R n m w t1 l m' w' := by
  have h2 : t1.sent + cntW i 0 = t1.sent := by simp [cntW]
  rw [h2, show reqL i no 0 = [] from rfl, List.append_nil]
theorem rwi_skip (t1 : TS) (l : List Cal) (i : Nat) (no : Int) : RMv R n m w { t1 with sent := t1.sent + cntW i (i + 1) } (l ++ reqL i no (i + 1)) m' w' = RMv R n m w { t1 with sent := t1.sent + cntW i i } (l ++ reqL i no i) m' w' := by
  have h2 : cntW i (i + 1) = cntW i i := by simp [cntW]
  have h3 : reqL i no (i + 1) = reqL i no i := by show (if i = i then _ else _) = _; rw [if_pos rfl]
  rw [h2, h3]
set_option maxRecDepth 100000 in
set_option maxHeartbeats 8000000 in
theorem refwant_calls {kb : Nat} (h : RLow w R t l m) (O : Ok t kb) (hkb : kb ≤ 10000) (hl : l.length ≤ 80000) (i : Int) :
    Calls Try.prog 33 #[.pointer (some ⟨R, 0, none⟩), .int .i64 i] w fun e w' => e = .returned (.int .i64 (t.wantE i)) ∧ ∃ m', RMv R t.n m w (t.want i) (t.wantL l i) m' w' := by
  have I := O.1
  have hn6 := I.hn
  have C1 := Lib.hid (refis_calls h i hn6.2)
  unfold TS.want TS.wantE TS.wantL
  by_cases ht : thereB t.n i = true
  · obtain ⟨a, rfl, ha⟩ := thereB_out ht
    rw [ht] at C1
    rw [if_pos ht, if_pos ht, if_pos ht, Int.toNat_natCast]
    have c0 := h.cells.1
    have c1 := h.cS I ha
    have c2 := h.cells.2.2.2.2.1
    have z1 : (0 : Int) ≤ (a : Int) ∧ (a : Int) < t.n := by omega
    by_cases hm : t.m a = 0
    · rw [if_pos hm, if_pos hm, if_pos hm]
      rw [hm] at c1
      have f1 : w.frozen? ⟨m.S, a, none⟩ = false := h.hS.free a
      by_cases hh : t.holder = a
      · rw [if_pos hh, if_pos hh]
        rw [hh] at c2
        have HM : Hid (RMv R t.n m w (t.hold a) l m (w.setCell ⟨m.S, a, none⟩ (.int .i64 2))) := (RMv.refl h).set ⟨.S, rfl⟩ _ (h.setM I ha 2) rfl
        clear h O I ht hm hh
        go_enter Try.func33, Try.ntmps33
        go_wp2_with fail
        refine C1.out.mono ?_
        rintro e w1 ⟨rfl, rfl⟩
        go_wp2_with fail
        go_ret
        exact ⟨rfl, m, HM.out⟩
      · rw [if_neg hh, if_neg hh]
        obtain ⟨y, hy⟩ : ∃ y, y = t.k a a := ⟨_, rfl⟩
        have hyb : 0 ≤ y ∧ y ≤ 10000 := by have h1 := I.kn a a ha ha; have h2 := O.2.kk a ha; omega
        have hsb := O.2.s0
        obtain ⟨w1, hw1⟩ : ∃ w1, w1 = w.setCell ⟨m.S, a, none⟩ (.int .i64 1) := ⟨_, rfl⟩
        have m1 : RMv R t.n m w { t with mood := t.mood.set a 1 } l m w1 := by rw [hw1]; exact (RMv.refl h).set ⟨.S, rfl⟩ _ (h.setM I ha 1) rfl
        have d1 : w1.cell? ⟨R, 1, none⟩ = some (.slice (some ⟨m.KB, 0, none⟩) t.n m.kc) := m1.low.cells.2.1
        have d2 : w1.cell? ⟨m.KB, a, none⟩ = some (.slice (some ⟨m.K a, 0, none⟩) t.n t.n) := m1.low.cB ha
        have d3 : w1.cell? ⟨m.K a, a, none⟩ = some (.int .i64 y) := by
          have := row_int (m1.low.hK a ha) (i := a) (by rw [I.lki a ha]; exact ha)
          rw [Nat.zero_add] at this
          rw [this, hy]; rfl
        have df : w1.frozen? ⟨m.K a, a, none⟩ = false := (m1.low.hK a ha).free a
        obtain ⟨w2, hw2⟩ : ∃ w2, w2 = w1.setCell ⟨m.K a, a, none⟩ (.int .i64 (y + 1)) := ⟨_, rfl⟩
        obtain ⟨t1, ht1⟩ : ∃ t1, t1 = ({ t with mood := t.mood.set a 1, known := setK2 t.known a a (y + 1) } : TS) := ⟨_, rfl⟩
        have m2 : RMv R t.n m w t1 l m w2 := by
          rw [hw2, ht1]
          refine m1.set ⟨.K a, by show (if a < t.n then some (m.K a) else none) = some _; rw [if_pos ha]⟩ _ ?_ rfl
          have hr := m1.low.rest (x0 := .K a) (p := ⟨m.K a, a, none⟩) (if_pos ha) (.int .i64 (y + 1))
          refine ⟨(hr .T _ rfl (by simp)).trans m1.low.hT, m1.low.hS.same (hr .S _ rfl (by simp)), m1.low.hB.same (hr .B _ rfl (by simp)), m1.low.hV.same (hr .V _ rfl (by simp)), fun b hb => ?_, m1.low.hQ.same fun g hg => hr .Q g hg (by simp), m1.low.hF.same fun g hg => hr .F g hg (by simp), m1.low.inj⟩
          have hb : b < t.n := hb
          show Row _ 3 (m.K b) 0 t.n (intsV ((setK2 t.known a a (y + 1)).getD b []))
          unfold setK2
          rw [getD_set _ _ _ _ _ (by rw [I.lk]; exact ha)]
          by_cases e : a = b
          · subst e
            rw [if_pos rfl, ← intsV_set]
            have := (m1.low.hK a ha).set a (by rw [intsV_len]; have := I.lki a ha; show a < (t.known.getD a []).length; omega) (.int .i64 (y + 1))
            rw [Nat.zero_add] at this
            exact this
          · rw [if_neg e]
            exact (m1.low.hK b hb).same (hr (.K b) _ (if_pos hb) (by intro e2; injection e2 with e2; exact e e2.symm))
        have HT1 : Hid (t1.n = t.n ∧ t1.sent = t.sent ∧ (t1.known.getD a []).getD a 0 = y + 1 ∧ (t1.known.getD a []).length = t.n ∧ Alk { t1 with sent := t1.sent + cntW a t.n } (t.ask a)) := by
          rw [ht1]
          refine ⟨rfl, rfl, ?_, ?_, ⟨rfl, rfl, ?_, rfl, rfl, rfl, ?_⟩⟩
          · have := getD_setK2 (l := t.known) (n := t.n) (i := a) (j := a) (y + 1) a a I.lk I.lki ha ha
            rw [if_pos ⟨rfl, rfl⟩] at this
            exact this
          · exact (len_setK2 (l := t.known) (i := a) (j := a) (y + 1) I.lk I.lki ha).2 a ha
          · show setK2 t.known a a (t.k a a + 1) = setK2 t.known a a (y + 1)
            rw [hy]
          · show t.sent + (t.n - 1) = t.sent + cntW a t.n
            unfold cntW
            rw [if_pos ha]
        have HY := Lib.hid hy
        have HM2 := Lib.hid m2
        have HW1 := Lib.hid hw1
        have HW2 := Lib.hid hw2
        rw [hw1] at d1 d2 d3 df
        have ws : IntKind.i64.wrap (y + 1) = y + 1 := IntWalk.i64_in _ (by omega)
        obtain ⟨hd, hhd⟩ : ∃ hd, hd = t.holder := ⟨_, rfl⟩
        rw [← hhd] at c2 hh
        clear h O I ht hm m1 m2 hw1 hw2 ht1 hy hhd
        go_enter Try.func33, Try.ntmps33
        go_wp2_with fail
        refine C1.out.mono ?_
        rintro e w3 ⟨rfl, rfl⟩
        go_wp2_with fail
        have hw1 := HW1.out
        have hw2 := HW2.out
        rw [← hw1, ← hw2]
        clear hw1 hw2 HW1 HW2 d1 d2 d3 df
        have hhf : (hd == (a : Int)) = false := by simpa using hh
        go_simp
        go_loopw [5] (fun v wr => RwI R m w t.n t1 l a (y + 1) v wr) (fun v _ => t.n - (intOf v).toNat)
        case atStart => exact ⟨0, m, rfl, Nat.zero_le _, by rw [rwi_zero]; exact HM2.out⟩
        case round =>
          clear c1 f1
          obtain ⟨k, m', rfl, hk, hmv⟩ := hrel
          have e0 : wr.cell? ⟨R, 0, none⟩ = some (.slice (some ⟨m'.S, 0, none⟩) t.n t.n) := by
            have := hmv.low.cells.1
            rw [hmv.en] at this
            exact this
          by_cases hlt : k < t.n
          · by_cases hka : k = a
            · subst hka
              have HMV := Lib.hid hmv
              clear hmv
              go_wp2_with fail
              go_roundw
              case rel => exact ⟨k + 1, m', by go_num, by omega, by rw [rwi_skip]; exact HMV.out⟩
              case measure => simp [intOf]; omega
            · have e1 : wr.cell? ⟨R, 1, none⟩ = some (.slice (some ⟨m'.KB, 0, none⟩) t.n m'.kc) := by
                have := hmv.low.cells.2.1
                rw [hmv.en] at this
                exact this
              have hen : t1.n = t.n := HT1.out.1
              have e2 : wr.cell? ⟨m'.KB, a, none⟩ = some (.slice (some ⟨m'.K a, 0, none⟩) t.n t.n) := by
                have := hmv.low.cB (i := a) (by show a < t1.n; omega)
                rw [hmv.en] at this
                exact this
              have e3 : wr.cell? ⟨m'.K a, a, none⟩ = some (.int .i64 (y + 1)) := by
                have := row_int (hmv.low.hK a (by show a < t1.n; omega)) (i := a) (by show a < (t1.known.getD a []).length; rw [HT1.out.2.2.2.1]; exact ha)
                rw [Nat.zero_add] at this
                rw [this]
                show some (Value.int .i64 ((t1.known.getD a []).getD a 0)) = _
                rw [HT1.out.2.2.1]
              have CS : Hid (Calls Try.prog 53 #[.pointer (some ⟨R, 0, none⟩), .agg #[.int .i64 a, .int .i64 k, .bool false, .int .i64 (y + 1)]] wr fun e w' => e = .returned (.tuple #[]) ∧ ∃ m2, RMv R t.n m w { t1 with sent := t1.sent + cntW a (k + 1) } (l ++ reqL a (y + 1) (k + 1)) m2 w') := by
                refine (refsend_calls hmv.low (a, k, .req (y + 1)) (by rw [List.length_append]; have := reqL_len a (y + 1) k; omega) ?_).mono ?_
                · show 0 ≤ t1.sent + cntW a k ∧ t1.sent + cntW a k ≤ 100000
                  rw [HT1.out.2.1]
                  unfold cntW
                  split <;> omega
                · rintro e w' ⟨he, m2, hm2⟩
                  refine ⟨he, m2, ?_⟩
                  have h3 : (l ++ reqL a (y + 1) k) ++ [((a, k, .req (y + 1)) : Cal)] = l ++ reqL a (y + 1) (k + 1) := by rw [List.append_assoc]; show _ = l ++ (if k = a then _ else _); rw [if_neg hka]
                  have h4 : t1.sent + cntW a k + 1 = t1.sent + cntW a (k + 1) := by unfold cntW; split <;> split <;> omega
                  have h5 := hmv.step hm2
                  rw [h3] at h5
                  have h6 : RMv R t.n m w { t1 with sent := t1.sent + cntW a k + 1 } (l ++ reqL a (y + 1) (k + 1)) m2 w' := h5
                  rw [h4] at h6
                  exact h6
              have hne : (k : Int) ≠ a := by omega
              clear hmv hen
              go_wp2_with fail
              refine CS.out.mono ?_
              rintro e w3 ⟨rfl, m2, hm3⟩
              have HM3 := Lib.hid hm3
              clear hm3 e0 e1 e2 e3 CS
              go_wp2_with fail
              go_roundw
              case rel => exact ⟨k + 1, m2, by go_num, by omega, HM3.out⟩
              case measure => simp [intOf]; omega
          · have hkn : k = t.n := by omega
            subst hkn
            have HMV := Lib.hid hmv
            clear hmv
            go_wp2_with fail
            go_ret
            refine ⟨rfl, m', ?_⟩
            have := HMV.out.alk HT1.out.2.2.2.2
            rw [HY.out] at this
            exact this
    · rw [if_neg hm, if_neg hm, if_neg hm]
      obtain ⟨x, hx⟩ : ∃ x, x = t.m a := ⟨_, rfl⟩
      rw [← hx] at c1 hm
      have HM := Lib.hid (RMv.refl h)
      clear h O I ht hx
      go_enter Try.func33, Try.ntmps33
      go_wp2_with fail
      refine C1.out.mono ?_
      rintro e w1 ⟨rfl, rfl⟩
      go_wp2_with fail
      go_ret
      exact ⟨rfl, m, HM.out⟩
  · rw [if_neg ht, if_neg ht, if_neg ht]
    have ht' : thereB t.n i = false := by simpa using ht
    rw [ht'] at C1
    have HM := Lib.hid (RMv.refl h)
    clear h O I ht ht'
    go_enter Try.func33, Try.ntmps33
    go_wp2_with fail
    refine C1.out.mono ?_
    rintro e w1 ⟨rfl, rfl⟩
    go_wp2_with fail
    go_ret
    exact ⟨rfl, m, HM.out⟩
end
end Go.Proofs.Ytahjgdikjaakbaa
