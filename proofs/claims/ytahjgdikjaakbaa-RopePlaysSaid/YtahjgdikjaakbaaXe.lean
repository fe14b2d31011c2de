/- What is proved: the reference's Deliver. No condition beyond those in each statement. -/
import Derived.Test.YtahjgdikjaakbaaPg
import Derived.Deep.RegionLaw
import Derived.Deep.CutRange
import Derived.Test.YtahjgdikjaakbaaZI
namespace Go.Proofs.Ytahjgdikjaakbaa
open Go.RowKit

theorem calsC_pre {l : List Cal} {w : World} {g o : Nat} (h : ∀ j u, (calsC l)[j]? = some u → w.cell? ⟨g, o + j, none⟩ = some u) (i k : Nat) :
    ∀ j u, (calsC ((l.drop i).take k))[j]? = some u → w.cell? ⟨g, o + i * 4 + j, none⟩ = some u := by
  intro j u hj
  have hlen := (List.getElem?_eq_some_iff.1 hj).1
  rw [calsC_len] at hlen
  have e1 : j = j / 4 * 4 + j % 4 := by omega
  have hk : j / 4 < ((l.drop i).take k).length := by omega
  have hk2 := hk
  rw [List.length_take, List.length_drop] at hk2
  rw [e1, calsC_get _ _ hk _ (by omega)] at hj
  have e2 : ((l.drop i).take k)[j / 4] = l[i + j / 4]'(by omega) := by
    rw [List.getElem_take, List.getElem_drop]
  rw [e2, ← calsC_get l (i + j / 4) (by omega) (j % 4) (by omega)] at hj
  have := h _ _ hj
  rw [show o + i * 4 + j = o + ((i + j / 4) * 4 + j % 4) by omega]
  exact this
/-- An append of calls to a row of the call's own. -/
theorem owc_more {N : Nat} {W : World} {A : Addr} {c : Nat} {v : Value} {xs ys : List Cal} (h : OwC W N v xs) (hN : N ≤ W.heap.size) (hv : v ≠ .slice none 0 0) (hl : xs.length + ys.length ≤ 100000) (hx : ∀ j u, (calsC ys)[j]? = some u → W.cell? (A.add j) = some u) {m : Nat} (hm : m = ys.length) :
    ∃ v' w', (Builtin.append_ #[29, 29] 29 #[v, .slice (some A) m c]).run Try.prog W = .ok v' w' ∧ ((∃ A' n' c', v' = .slice (some A') n' c') ∧ OwC w' N v' (xs ++ ys) ∧ Below N W w') := by
  obtain ⟨i0, hi, hz0, hz1, hz2⟩ := info_parts info32
  subst hm
  obtain ⟨v', w', hrun, r1, r2, r3⟩ := run_append_own (P := Try.prog) W N 29 29 32 i0 _ 4 32 Try.underlying29 hi hz0 hz1 hz2 rfl (by decide) v xs.length (calsC xs) h A ys.length c (calsC ys) (calsC_len _) hx calsC_one (by simp [maxLen]; omega) (by omega) hN
  have ho : OwC w' N v' (xs ++ ys) := by unfold OwC; rw [List.length_append, calsC_app]; exact r1
  have hB : Below N W w' := (Below.refl _ _).grown r2 hN (fun k hk => (World.ownsRow.lt h k hk).1)
  rcases ho.2 with ⟨e, _⟩ | ⟨g', cap, cur, rfl, _⟩
  · exact absurd (r3.1 e).1 hv
  · exact ⟨_, w', hrun, ⟨_, _, _, rfl⟩, ho, hB⟩
theorem owc_new (w : World) (base : Nat) (hb : base ≤ w.heap.size) : OwC (w.alloc (.cells #[] 32)) base (.slice (some ⟨w.heap.size, 0, none⟩) 0 0) [] :=
  ⟨rfl, .inr ⟨w.heap.size, 0, #[], rfl, hb, World.alloc_heap_new w _, Nat.le_refl _, by simp, rfl, rfl⟩⟩
theorem noneS {l : List Cal} {k a b : Nat} {ca cb : Nat} {cm : Msg} {hk : k < l.length} (h : ∀ c, c ∈ l.take k → ¬ (c.1 = a ∧ c.2.1 = b)) (hc : l[k] = (ca, cb, cm)) (hn : ¬ (ca = a ∧ cb = b)) : ∀ c, c ∈ l.take (k + 1) → ¬ (c.1 = a ∧ c.2.1 = b) := by
  intro c hc2
  rw [List.take_succ_eq_append_getElem hk] at hc2
  rcases List.mem_append.1 hc2 with h1 | h1
  · exact h c h1
  · rw [List.mem_singleton] at h1
    rw [h1, hc]
    exact hn
section
variable {w w' : World} {R n : Nat} {t : TS} {l : List Cal} {m m' : RM}
theorem RLow.setM' (h : RLow w R t l m) (lm : t.mood.length = t.n) {i : Nat} (hi : i < t.n) (v : Int) : RLow (w.setCell ⟨m.S, i, none⟩ (.int .i64 v)) R { t with mood := t.mood.set i v } l m := by
  have hr := h.rest (x0 := .S) (p := ⟨m.S, i, none⟩) rfl (.int .i64 v)
  refine ⟨(hr .T _ rfl (by simp)).trans h.hT, ?_, h.hB.same (hr .B _ rfl (by simp)), h.hV.same (hr .V _ rfl (by simp)), fun a ha => (h.hK a ha).same (hr (.K a) _ (if_pos ha) (by simp)), h.hQ.same fun g hg => hr .Q g hg (by simp), h.hF.same fun g hg => hr .F g hg (by simp), h.inj⟩
  have := h.hS.set i (by rw [intsV_len, lm]; exact hi) (.int .i64 v)
  rw [Nat.zero_add, intsV_set] at this
  exact this
theorem RLow.cM' (h : RLow w R t l m) (lm : t.mood.length = t.n) {i : Nat} (hi : i < t.n) : w.cell? ⟨m.S, i, none⟩ = some (.int .i64 (t.mood.getD i 0)) := by
  have := row_int h.hS (i := i) (by rw [lm]; exact hi)
  rw [Nat.zero_add] at this
  exact this
/-- Under way in Deliver's loop. -/
def RdI (w : World) (l : List Cal) (a b : Nat) (v : Value) (wr : World) : Prop := ∃ k : Nat, v = .int .i64 k ∧ k ≤ l.length ∧ (∀ c, c ∈ l.take k → ¬ (c.1 = a ∧ c.2.1 = b)) ∧ Below w.heap.size w wr
set_option maxRecDepth 100000 in
set_option maxHeartbeats 8000000 in
theorem refdel_calls {kb : Nat} (h : RLow w R t l m) (F : Flt l t) (O : Ok t kb) (hkb : kb ≤ 10000) (hl : l.length ≤ 80000) (i j : Int) :
    Calls Try.prog 38 #[.pointer (some ⟨R, 0, none⟩), .int .i64 i, .int .i64 j] w fun e w' => e = .returned (.int .i64 (t.delE i j)) ∧ ∃ l' m', RMv R t.n m w (t.delI i j) l' m' w' ∧ Flt l' (t.delI i j) := by
  have I := O.1
  have hn6 := I.hn
  have C1 := Lib.hid (refis_calls h i hn6.2)
  have C2 := Lib.hid (refis_calls h j hn6.2)
  have H0 : Hid (RMv R t.n m w t l m w ∧ Flt l t) := ⟨RMv.refl h, F⟩
  unfold TS.delI TS.delE
  by_cases ht : thereB t.n i = true ∧ thereB t.n j = true ∧ i ≠ j
  · rw [if_pos ht, if_pos ht]
    obtain ⟨a, rfl, ha⟩ := thereB_out ht.1
    obtain ⟨b, rfl, hbn⟩ := thereB_out ht.2.1
    rw [ht.1] at C1
    rw [ht.2.1] at C2
    have hij : ¬ (a : Int) = b := ht.2.2
    rw [Int.toNat_natCast, Int.toNat_natCast]
    obtain ⟨ev, hev⟩ : ∃ ev, ev = (if t.fl a b = [] then (5 : Int) else 0) := ⟨_, rfl⟩
    rw [← hev]
    have HEV := Lib.hid hev
    clear hev
    have c5 := h.cells.2.2.2.2.2.1
    obtain ⟨A, c, hfv, hc1, hc2, hnn, hrd, _⟩ := h.hF.rd
    rw [hfv] at c5
    obtain ⟨L, hL⟩ : ∃ L, L = l.length := ⟨_, rfl⟩
    rw [← hL] at c5 hc1 hl
    have HL := Lib.hid hL
    have H := Lib.hid h
    have HI := Lib.hid I
    have HF := Lib.hid F
    have HFV := Lib.hid hfv
    have HRD := Lib.hid hrd
    have HO := Lib.hid O
    clear h F O I ht hL hfv hnn hrd
    go_enter Try.func38, Try.ntmps38
    go_wp2_with fail
    refine C1.out.mono ?_
    rintro e w1 ⟨rfl, rfl⟩
    go_wp2_with fail
    refine C2.out.mono ?_
    rintro e w1 ⟨rfl, rfl⟩
    go_wp2_with fail
    go_simp
    go_loopw [7, 8] (fun v v8 wr => RdI w l a b v wr) (fun v _ _ => L - (intOf v).toNat)
    case atStart => exact ⟨0, rfl, Nat.zero_le _, by intro c hc; simp at hc, Below.refl _ _⟩
    case round =>
      obtain ⟨k, rfl, hk, hno, hb⟩ := hrel
      have HNO := Lib.hid hno
      have HB := Lib.hid hb
      have hLw := H.out.below hb
      have e5 : wr.cell? ⟨R, 5, none⟩ = some (.slice A L c) := by rw [HL.out, ← HFV.out]; exact hLw.cells.2.2.2.2.2.1
      rw [← HL.out] at hk
      clear c5
      by_cases hlt : k < L
      · obtain ⟨ca, cb, cm, hcc⟩ : ∃ ca cb cm, l[k]'(by rw [← HL.out]; exact hlt) = (ca, cb, cm) := ⟨_, _, _, rfl⟩
        obtain ⟨g, o, rfl, hgl, y0, y1, y2, y3⟩ := (HRD.out.below hb).at k (by rw [← HL.out]; exact hlt)
        rw [hcc] at y0 y1 y2 y3
        obtain ⟨tk, htk⟩ : ∃ tk, tk = cm.isTok := ⟨_, rfl⟩
        obtain ⟨no, hno2⟩ : ∃ no, no = cm.num := ⟨_, rfl⟩
        simp only at y0 y1 y2 y3
        rw [← htk] at y2
        rw [← hno2] at y3
        have HCC := Lib.hid hcc
        have HTK := Lib.hid htk
        have HNU := Lib.hid hno2
        by_cases hm1 : ca = a
        · by_cases hm2 : cb = b
          · subst hm1
            subst hm2
            obtain ⟨N, hN⟩ : ∃ N, N = wr.heap.size := ⟨_, rfl⟩
            obtain ⟨W1, hW1⟩ : ∃ W1, W1 = wr.alloc (.cells #[.int .i64 ca, .int .i64 cb, .bool tk, .int .i64 no] 32) := ⟨_, rfl⟩
            have hs1 : W1.heap.size = N + 1 := by rw [hW1, hN]; simp
            have hb1 : Below wr.heap.size wr W1 := by rw [hW1]; exact (Below.refl _ _).alloc (Nat.le_refl _) _
            have hRl : R < wr.heap.size := hLw.lt .T R rfl
            have x5 : W1.cell? ⟨R, 5, none⟩ = some (.slice (some ⟨g, o, none⟩) L c) := (hb1.cell (p := ⟨R, 5, none⟩) hRl).trans e5
            have xf : W1.frozen? ⟨R, 5, none⟩ = false := (World.frozen?_of_block (a := ⟨R, 5, none⟩) (hb1.block R hRl)).trans (hLw.fT 5)
            have hRl1 : R < W1.heap.size := by omega
            have x2 : W1.cell? ⟨N, 2, none⟩ = some (.bool tk) := by rw [hW1, hN]; exact World.cell?_alloc_at _ _ _ _ rfl
            have x3 : W1.cell? ⟨N, 3, none⟩ = some (.int .i64 no) := by rw [hW1, hN]; exact World.cell?_alloc_at _ _ _ _ rfl
            obtain ⟨P2, hP2⟩ : ∃ P2, P2 = (if c = k + 1 then (⟨g, o, none⟩ : Addr) else ⟨g, o + (k + 1) * 4, none⟩) := ⟨_, rfl⟩
            have hrd1 : RdC W1 (some ⟨g, o, none⟩) l := (HRD.out.below HB.out).below hb1
            have HA : Hid (∀ W', Below (N + 1) W1 W' → W'.heap[N + 1]? = some (.cells #[] 32 (0, 0)) → ∃ v' w', (Builtin.append_ #[29, 29] 29 #[.slice (some ⟨N + 1, 0, none⟩) 0 0, .slice (some ⟨g, o, none⟩) k c]).run Try.prog W' = .ok v' w' ∧ ((∃ A' n' c', v' = .slice (some A') n' c') ∧ OwC w' (N + 1) v' (l.take k) ∧ Below (N + 1) W' w')) := by
              intro W' hbW hnew
              have h0 : OwC W' (N + 1) (.slice (some ⟨N + 1, 0, none⟩) 0 0) [] := ⟨rfl, .inr ⟨N + 1, 0, #[], rfl, Nat.le_refl _, hnew, Nat.le_refl _, by simp, rfl, rfl⟩⟩
              have hlN : N + 1 < W'.heap.size := (Array.getElem?_eq_some_iff.1 hnew).1
              have := owc_more (A := ⟨g, o, none⟩) (c := c) (ys := l.take k) (m := k) h0 (by omega) (by simp) (by rw [List.length_take, ← HL.out]; simp; omega) (by
                intro j u hj
                have hne : l ≠ [] := by rintro rfl; have := HL.out; simp at this; omega
                obtain ⟨b', o', e', hlt', hc'⟩ := hrd1 hne
                cases e'
                have := calsC_pre hc' 0 k j u (by rw [List.drop_zero]; exact hj)
                rw [addr_add, (hbW.mono (by omega)).cell (p := ⟨g, o + j, none⟩) hlt']
                rw [Nat.zero_mul, Nat.add_zero] at this
                exact this) (by rw [List.length_take, ← HL.out]; omega)
              rw [List.nil_append] at this
              exact this
            have HC : Hid (∀ W' v, (∃ A' n' c', v = Value.slice (some A') n' c') → OwC W' (N + 1) v (l.take k) → Below (N + 1) W1 W' → ∀ c2, ∃ v' w', (Builtin.append_ #[29, 29] 29 #[v, .slice (some P2) (L - (k + 1)) c2]).run Try.prog W' = .ok v' w' ∧ ((∃ A' n' c', v' = .slice (some A') n' c') ∧ OwC w' (N + 1) v' (l.take k ++ l.drop (k + 1)) ∧ Below (N + 1) W' w')) := by
              intro W' v hv ho hbW c2
              refine owc_more ho (by have := hbW.size; omega) (by obtain ⟨_, _, _, rfl⟩ := hv; simp) (by rw [List.length_take, List.length_drop, ← HL.out]; omega) ?_ (by rw [List.length_drop, ← HL.out])
              intro j u hj
              have hne : l ≠ [] := by rintro rfl; have := HL.out; simp at this; omega
              obtain ⟨b', o', e', hlt', hc'⟩ := hrd1 hne
              cases e'
              by_cases hck : c = k + 1
              · have h2 := (List.getElem?_eq_some_iff.1 hj).1
                rw [calsC_len, List.length_drop, ← HL.out] at h2
                omega
              · rw [hP2, if_neg hck]
                have h2 := (List.getElem?_eq_some_iff.1 hj).1
                rw [calsC_len] at h2
                have := calsC_pre hc' (k + 1) (l.drop (k + 1)).length j u (by rw [List.take_of_length_le (Nat.le_refl _)]; exact hj)
                rw [addr_add, (hbW.mono (by omega)).cell (p := ⟨g, o + (k + 1) * 4 + j, none⟩) hlt']
                exact this
            have HW1 := Lib.hid hW1
            have HN := Lib.hid hN
            have HB1 := Lib.hid hb1
            have zk : (0 : Int) ≤ (k : Int) ∧ (k : Int) ≤ c := by omega
            have zk1 : (0 : Int) ≤ (k : Int) + 1 ∧ (k : Int) + 1 ≤ L := by omega
            have wk : IntKind.i64.wrap ((k : Int) + 1) = k + 1 := IntWalk.i64_in _ (by omega)
            have tk1 : ((k : Int) + 1).toNat = k + 1 := by omega
            have hbA : Below W1.heap.size W1 (W1.alloc (.cells #[] 32)) := (Below.refl _ _).alloc (Nat.le_refl _) _
            have xa : (W1.alloc (.cells #[] 32)).cell? ⟨R, 5, none⟩ = some (.slice (some ⟨g, o, none⟩) L c) := (hbA.cell (p := ⟨R, 5, none⟩) hRl1).trans x5
            have hNs : W1.heap.size ≤ N + 1 := Nat.le_of_eq hs1
            have HPU : Hid (t.fl ca cb = cm :: fltR (l.drop (k + 1)) ca cb ∧ (l.take k ++ l.drop (k + 1)).length ≤ 80000 ∧ ∀ t' : TS, t'.n = t.n → t'.fl = updF t.fl ca cb (fltR (l.drop (k + 1)) ca cb) → Flt (l.take k ++ l.drop (k + 1)) t') := by
              have hsp : l.take k ++ (ca, cb, cm) :: l.drop (k + 1) = l := by
                rw [← hcc, ← List.drop_eq_getElem_cons, List.take_append_drop]
              have hF := HF.out
              rw [← hsp] at hF
              obtain ⟨_, _, p3, p4⟩ := hF.pull hno
              exact ⟨p3, by rw [List.length_append, List.length_take, List.length_drop]; have := HL.out; omega, p4⟩
            have HFIN : Hid (∀ v2 w2, OwC w2 (N + 1) v2 (l.take k ++ l.drop (k + 1)) → Below W1.heap.size W1 w2 → ∃ m2, RMv R t.n m w t (l.take k ++ l.drop (k + 1)) m2 (w2.setCell ⟨R, 5, none⟩ v2) ∧ (w2.setCell ⟨R, 5, none⟩ v2).cell? ⟨N, 2, none⟩ = some (.bool tk) ∧ (w2.setCell ⟨R, 5, none⟩ v2).cell? ⟨N, 3, none⟩ = some (.int .i64 no)) := by
              intro v2 w2 ho2 hb2
              have hNR : R ≠ N := by have := HN.out; omega
              have hL1 : RLow W1 R t l m := hLw.below HB1.out
              have m1 : RMv R t.n m w t l m W1 := ((RMv.refl H.out).below HB.out).below HB1.out
              refine ⟨_, m1.step (hL1.putF (ho2.mono (Nat.zero_le _)) ⟨hb2.os, hb2.tape, hb2.output, hb2.size, fun k hk _ => hb2.block k hk⟩ (fun b hb => .inr (by rw [hs1]; exact (World.ownsRow.lt ho2 b hb).1))), ?_, ?_⟩
              · exact (World.cell?_of_block (a := ⟨N, 2, none⟩) (heap_setCell_other w2 ⟨R, 5, none⟩ N _ hNR.symm)).trans ((hb2.cell (p := ⟨N, 2, none⟩) (by show N < W1.heap.size; omega)).trans x2)
              · exact (World.cell?_of_block (a := ⟨N, 3, none⟩) (heap_setCell_other w2 ⟨R, 5, none⟩ N _ hNR.symm)).trans ((hb2.cell (p := ⟨N, 3, none⟩) (by show N < W1.heap.size; omega)).trans x3)
            clear hno hb hLw hcc htk hno2 hW1 hN hb1 hrd1 x2 x3
            go_wp2_with fail
            have hW1 := HW1.out
            have hN := HN.out
            rw [← hW1, ← hN]
            clear hW1 hN e5 y0 y1 y2 y3
            go_cut [] from 24 to 143 (fun wx => ∃ m2, RMv R t.n m w t (l.take k ++ l.drop (k + 1)) m2 wx ∧ wx.cell? ⟨N, 2, none⟩ = some (.bool tk) ∧ wx.cell? ⟨N, 3, none⟩ = some (.int .i64 no))
            case first =>
              by_cases hck : c = k + 1
              · rw [if_pos hck] at hP2
                subst hP2
                subst hck
                have hL0 : L - (k + 1) = 0 := by omega
                rw [hL0] at HC
                have zk5 : (k : Int) ≤ (k : Int) + 1 := by omega
                go_region_law ((first
                | (refine step_app (by rfl) (.tmp 51) (.tmp 57) 29 29 (by rfl) (by rfl) (.slice (some ⟨N + 1, 0, none⟩) 0 0) (.slice (some ⟨g, o, none⟩) k (k + 1)) (by rfl) (by rfl) (HA.out _ (by repeat (first | with_reducible exact Below.refl _ _ | with_reducible refine Below.drew ?_ | with_reducible refine Below.alloc ?_ (Nat.le_of_eq hs1.symm) _)) (by rw [← hs1]; exact World.alloc_heap_new W1 _)) ?_; rintro v1 w1 ⟨⟨A1, n1, c1, rfl⟩, ho1, hb1⟩; have hbb1 : Below W1.heap.size W1 w1 := (hbA.trans (by first | exact hb1.mono hNs | exact Below.ofDrew (hb1.mono hNs))); have d5 := (hbb1.cell (p := ⟨R, 5, none⟩) hRl1).trans x5)
                | (refine step_app (by rfl) (.tmp 58) (.tmp 65) 29 29 (by rfl) (by rfl) (.slice (some A1) n1 c1) (.slice (some ⟨g, o, none⟩) 0 0) (by rfl) (by rfl) (HC.out _ (.slice (some A1) n1 c1) ⟨_, _, _, rfl⟩ (by first | exact ho1 | exact ho1.below (below_drewN (Below.refl _ _) 1)) (by rw [← hs1]; first | exact hbb1 | exact hbb1.drew) _) ?_; rintro v2 w2 ⟨⟨A2, n2, c2, rfl⟩, ho2, hb2⟩; have hbb2 : Below W1.heap.size W1 w2 := (hbb1.trans (by first | exact hb2.mono hNs | exact Below.ofDrew (hb2.mono hNs))); have d5b := (hbb2.cell (p := ⟨R, 5, none⟩) hRl1).trans x5; have dfb := (World.frozen?_of_block (a := ⟨R, 5, none⟩) (hbb2.block R hRl1)).trans xf)))
                all_goals
                  go_wp2_with fail
                  go_meet
                  case rel => exact HFIN.out _ _ ho2 hbb2
              · rw [if_neg hck] at hP2
                subst hP2
                go_region_law ((first
                | (refine step_app (by rfl) (.tmp 51) (.tmp 57) 29 29 (by rfl) (by rfl) (.slice (some ⟨N + 1, 0, none⟩) 0 0) (.slice (some ⟨g, o, none⟩) k c) (by rfl) (by rfl) (HA.out _ (by repeat (first | with_reducible exact Below.refl _ _ | with_reducible refine Below.drew ?_ | with_reducible refine Below.alloc ?_ (Nat.le_of_eq hs1.symm) _)) (by rw [← hs1]; exact World.alloc_heap_new W1 _)) ?_; rintro v1 w1 ⟨⟨A1, n1, c1, rfl⟩, ho1, hb1⟩; have hbb1 : Below W1.heap.size W1 w1 := (hbA.trans (by first | exact hb1.mono hNs | exact Below.ofDrew (hb1.mono hNs))); have d5 := (hbb1.cell (p := ⟨R, 5, none⟩) hRl1).trans x5)
                | (refine step_app (by rfl) (.tmp 58) (.tmp 65) 29 29 (by rfl) (by rfl) (.slice (some A1) n1 c1) (.slice (some ⟨g, o + (k + 1) * 4, none⟩) (L - (k + 1)) (c - (k + 1))) (by rfl) (by rfl) (HC.out _ (.slice (some A1) n1 c1) ⟨_, _, _, rfl⟩ (by first | exact ho1 | exact ho1.below (below_drewN (Below.refl _ _) 1)) (by rw [← hs1]; first | exact hbb1 | exact hbb1.drew) _) ?_; rintro v2 w2 ⟨⟨A2, n2, c2, rfl⟩, ho2, hb2⟩; have hbb2 : Below W1.heap.size W1 w2 := (hbb1.trans (by first | exact hb2.mono hNs | exact Below.ofDrew (hb2.mono hNs))); have d5b := (hbb2.cell (p := ⟨R, 5, none⟩) hRl1).trans x5; have dfb := (World.frozen?_of_block (a := ⟨R, 5, none⟩) (hbb2.block R hRl1)).trans xf)))
                all_goals
                  go_wp2_with fail
                  go_meet
                  case rel => exact HFIN.out _ _ ho2 hbb2
            case rest =>
              obtain ⟨m2, hm2, x2, x3⟩ := hcut
              have I := HI.out
              have hsb := HO.out.2.s0
              obtain ⟨hfl, hll, hFl⟩ := HPU.out
              obtain ⟨ll, hlq⟩ : ∃ ll, ll = l.take k ++ l.drop (k + 1) := ⟨_, rfl⟩
              rw [← hlq] at hm2 hFl hll
              obtain ⟨xs, hxs⟩ : ∃ xs, xs = fltR (l.drop (k + 1)) ca cb := ⟨_, rfl⟩
              rw [← hxs] at hfl hFl
              have d0 := hm2.low.cells.1
              have z1 : (0 : Int) ≤ (ca : Int) ∧ (ca : Int) < t.n := by omega
              have z2 : (0 : Int) ≤ (cb : Int) ∧ (cb : Int) < t.n := by omega
              have hE : ev = 0 := by rw [HEV.out, hfl]; rfl
              have hbm := hm2.low.cS I hbn
              have fbm : wc.frozen? ⟨m2.S, cb, none⟩ = false := hm2.low.hS.free cb
              clear HPU HFIN HA HC hbA xa x5 xf hP2 hlq hxs HB1 HRD zk zk1 wk tk1
              cases cm with
              | tok =>
                have htk : tk = true := HTK.out
                subst htk
                have hdel : t.deliver ca cb = t.gets ca cb xs := by unfold TS.deliver; rw [hfl]
                have HE := Lib.hid hE
                have HD := Lib.hid hdel
                clear HEV hE
                have d4 := hm2.low.cells.2.2.2.2.1
                have f4 := hm2.low.fT 4
                obtain ⟨hd, hhd⟩ : ∃ hd, hd = t.holder := ⟨_, rfl⟩
                rw [← hhd] at d4
                have m3 : RMv R t.n m w { t with holder := (cb : Int) } ll m2 (wc.setCell ⟨R, 4, none⟩ (.int .i64 cb)) := hm2.set ⟨.T, rfl⟩ _ (hm2.low.setHold cb) rfl
                have m4 : RMv R t.n m w { t with holder := (cb : Int), mood := t.mood.set cb 2 } ll m2 ((wc.setCell ⟨R, 4, none⟩ (.int .i64 cb)).setCell ⟨m2.S, cb, none⟩ (.int .i64 2)) := m3.set ⟨.S, rfl⟩ _ (m3.low.setM' I.lm hbn 2) rfl
                obtain ⟨y9, hy9⟩ : ∃ y9, (wc.setCell ⟨R, 4, none⟩ (.int .i64 cb)).cell? ⟨m2.S, cb, none⟩ = some (.int .i64 y9) := ⟨_, m3.low.cM' I.lm hbn⟩
                have hf9 : (wc.setCell ⟨R, 4, none⟩ (.int .i64 cb)).frozen? ⟨m2.S, cb, none⟩ = false := m3.low.hS.free cb
                have HFI : Hid (RMv R t.n m w (t.gets ca cb xs) ll m2 ((wc.setCell ⟨R, 4, none⟩ (.int .i64 cb)).setCell ⟨m2.S, cb, none⟩ (.int .i64 2)) ∧ Flt ll (t.gets ca cb xs)) := ⟨m4.alk ⟨rfl, rfl, rfl, rfl, rfl, rfl, rfl⟩, hFl _ rfl rfl⟩
                clear hm2 I hfl hFl hdel m3 m4 hhd hbm fbm
                go_wp2_with fail
                go_ret
                refine ⟨by rw [HE.out]; rfl, ll, m2, ?_⟩
                rw [HD.out]
                exact HFI.out
              | req nn =>
                have HE := Lib.hid hE
                clear HEV hE
                have htk : tk = false := HTK.out
                subst htk
                have hnn : no = nn := HNU.out
                subst hnn
                rename World => w4
                obtain ⟨y, hy⟩ : ∃ y, y = t.k cb ca := ⟨_, rfl⟩
                obtain ⟨mx, hmx⟩ : ∃ mx, mx = max y no := ⟨_, rfl⟩
                have d1 : w4.cell? ⟨R, 1, none⟩ = some (.slice (some ⟨m2.KB, 0, none⟩) t.n m2.kc) := hm2.low.cells.2.1
                have d2 : w4.cell? ⟨m2.KB, cb, none⟩ = some (.slice (some ⟨m2.K cb, 0, none⟩) t.n t.n) := hm2.low.cB hbn
                have d3 : w4.cell? ⟨m2.K cb, ca, none⟩ = some (.int .i64 y) := by rw [hy]; exact hm2.low.cK I hbn ha
                have df : w4.frozen? ⟨m2.K cb, ca, none⟩ = false := (hm2.low.hK cb hbn).free ca
                have HY := Lib.hid hy
                have HMX0 := Lib.hid hmx
                clear hbm fbm hy
                go_wp2_with fail
                go_cut [] from 24 to 143 (fun wx => wx = (w4.setCell ⟨m2.K cb, ca, none⟩ (.int .i64 mx)).drew)
                case first =>
                  by_cases hle : no ≤ y
                  · have hxx : mx = y := by rw [hmx, Int.max_eq_left hle]
                    go_still_tail 22, (by kernel_rfl)
                    all_goals
                      change wpList _ _ _ _ _ w4.drew
                      go_wp2_with fail
                      go_meet
                      case rel => rw [hxx]
                  · have hxx : mx = no := by rw [hmx, Int.max_eq_right (by omega)]
                    go_still_tail 22, (by kernel_rfl)
                    all_goals
                      change wpList _ _ _ _ _ w4.drew
                      go_wp2_with fail
                      go_meet
                      case rel => rw [hxx]
                case rest =>
                  have m3 : RMv R t.n m w { t with known := setK2 t.known cb ca mx } ll m2 wc := by
                    rw [hcut]
                    exact (hm2.set ⟨.K cb, by show (if cb < t.n then some (m2.K cb) else none) = some _; rw [if_pos hbn]⟩ _ (hm2.low.setK I hbn ha mx) rfl).drewN 1
                  have g0 : wc.cell? ⟨R, 0, none⟩ = some (.slice (some ⟨m2.S, 0, none⟩) t.n t.n) := m3.low.cells.1
                  have g1 : wc.cell? ⟨R, 1, none⟩ = some (.slice (some ⟨m2.KB, 0, none⟩) t.n m2.kc) := m3.low.cells.2.1
                  have g2 : wc.cell? ⟨R, 2, none⟩ = some (.slice (some ⟨m2.SV, 0, none⟩) t.n t.n) := m3.low.cells.2.2.1
                  have g4 : wc.cell? ⟨R, 4, none⟩ = some (.int .i64 t.holder) := m3.low.cells.2.2.2.2.1
                  have g5 : wc.cell? ⟨m2.S, cb, none⟩ = some (.int .i64 (t.m cb)) := m3.low.cM' I.lm hbn
                  have g6 : wc.cell? ⟨m2.KB, cb, none⟩ = some (.slice (some ⟨m2.K cb, 0, none⟩) t.n t.n) := m3.low.cB hbn
                  have g7 : wc.cell? ⟨m2.K cb, ca, none⟩ = some (.int .i64 mx) := by
                    have h2 := len_setK2 (l := t.known) (i := cb) (j := ca) mx I.lk I.lki hbn
                    have := m3.low.cK' (i := cb) (j := ca) hbn (h2.2 cb hbn) ha
                    rw [this]
                    have h3 := getD_setK2 (l := t.known) (n := t.n) (i := cb) (j := ca) mx cb ca I.lk I.lki hbn ha
                    rw [if_pos ⟨rfl, rfl⟩] at h3
                    show some (Value.int .i64 (((setK2 t.known cb ca mx).getD cb []).getD ca 0)) = _
                    rw [h3]
                  have g8 : wc.cell? ⟨m2.SV, ca, none⟩ = some (.int .i64 (t.s ca)) := m3.low.cV' I.ls ha
                  obtain ⟨hd, hhd⟩ : ∃ hd, hd = t.holder := ⟨_, rfl⟩
                  obtain ⟨mb, hmb⟩ : ∃ mb, mb = t.m cb := ⟨_, rfl⟩
                  obtain ⟨sv, hsv⟩ : ∃ sv, sv = t.s ca := ⟨_, rfl⟩
                  have hsvb : 0 ≤ sv ∧ sv ≤ 10000 := by
                    have h1 := I.sv0 ca ha
                    have h2 := HO.out.2.kk ca ha
                    omega
                  rw [← hhd] at g4
                  rw [← hmb] at g5
                  rw [← hsv] at g8
                  have ws : IntKind.i64.wrap (sv + 1) = sv + 1 := IntWalk.i64_in _ (by omega)
                  have hdel : t.deliver ca cb = if t.holder = cb ∧ t.m cb = 0 ∧ max (t.k cb ca) no = t.s ca + 1 then (t.learn ca cb no xs).give cb ca else t.learn ca cb no xs := by unfold TS.deliver; rw [hfl]
                  have m3' : RMv R t.n m w (t.learn ca cb no xs) ll m2 wc := m3.alk ⟨rfl, rfl, by show setK2 t.known cb ca (max (t.k cb ca) no) = setK2 t.known cb ca mx; rw [hmx, HY.out], rfl, rfl, rfl, rfl⟩
                  have hF3 : Flt ll (t.learn ca cb no xs) := hFl _ rfl rfl
                  have CP : Hid (∀ q, Calls Try.prog 57 #[.pointer (some ⟨R, 0, none⟩), .int .i64 cb, .int .i64 ca] (wc.drewN q) fun e w' => e = .returned (.tuple #[]) ∧ ∃ m5, RMv R t.n m w ((t.learn ca cb no xs).give cb ca) (ll ++ [(cb, ca, .tok)]) m5 w' ∧ Flt (ll ++ [(cb, ca, .tok)]) ((t.learn ca cb no xs).give cb ca)) := by
                    intro q
                    refine (refpass_calls (m3'.drewN q).low cb ca (by omega) (by show 0 ≤ t.sent ∧ t.sent ≤ 100000; omega)).mono ?_
                    rintro e w' ⟨he, m5, hm5⟩
                    exact ⟨he, m5, ((m3'.drewN q).step hm5).alk ⟨rfl, rfl, rfl, rfl, rfl, rfl, rfl⟩, hF3.push hbn ha .tok rfl rfl⟩
                  have HM3 := Lib.hid m3'
                  have HFL := Lib.hid hF3
                  have HD := Lib.hid hdel
                  have HHD := Lib.hid hhd
                  have HMB := Lib.hid hmb
                  have HSV := Lib.hid hsv
                  have HMX : Hid (mx = max (t.k cb ca) no) := by rw [HY.out] at hmx; exact hmx
                  clear hcut m3 m3' hF3 hdel hhd hmb hsv hm2 hFl hfl hmx I d1 d2 d3 df d0 x2 x3 HY HMX0
                  by_cases hq1 : hd = cb
                  · subst hq1
                    by_cases hq2 : mb = 0
                    · subst hq2
                      by_cases hq3 : mx = sv + 1
                      · have HQ : Hid ((t.holder = cb ∧ t.m cb = 0 ∧ max (t.k cb ca) no = t.s ca + 1)) := ⟨HHD.out.symm, HMB.out.symm, by rw [← HMX.out, ← HSV.out]; exact hq3⟩
                        go_wp2_with fail
                        go_quiet (fail)
                        go_wp2_with fail
                        refine (CP.out nq).mono ?_
                        rintro e w6 ⟨rfl, m5, hm5, hf5⟩
                        have HM5 := Lib.hid hm5
                        have HF5 := Lib.hid hf5
                        clear hm5 hf5 CP
                        go_wp2_with fail
                        go_ret
                        refine ⟨by rw [HE.out]; rfl, ll ++ [(cb, ca, .tok)], m5, ?_⟩
                        rw [HD.out, if_pos HQ.out]
                        exact ⟨HM5.out, HF5.out⟩
                      · have hq : decide (mx = sv + 1) = false := decide_eq_false hq3
                        have hqb : (mx == sv + 1) = false := beq_eq_false_iff_ne.2 hq3
                        have HFI : Hid (RMv R t.n m w (t.deliver ca cb) ll m2 wc ∧ Flt ll (t.deliver ca cb)) := by
                          rw [HD.out, if_neg (by rw [← HHD.out, ← HMB.out, ← HMX.out, ← HSV.out]; exact fun e => hq3 e.2.2)]
                          exact ⟨HM3.out.alk ⟨rfl, rfl, rfl, rfl, rfl, rfl, rfl⟩, HFL.out⟩
                        clear CP
                        go_wp2_with fail
                        go_quiet (fail)
                        go_wp2_with fail
                        go_ret
                        exact ⟨by rw [HE.out]; rfl, ll, m2, HFI.out.1.drewN nq, HFI.out.2⟩
                    · have hq : decide (mb = 0) = false := decide_eq_false hq2
                      have hqb : (mb == 0) = false := beq_eq_false_iff_ne.2 hq2
                      have HFI : Hid (RMv R t.n m w (t.deliver ca cb) ll m2 wc ∧ Flt ll (t.deliver ca cb)) := by
                        rw [HD.out, if_neg (by rw [← HHD.out, ← HMB.out, ← HMX.out, ← HSV.out]; exact fun e => hq2 e.2.1)]
                        exact ⟨HM3.out.alk ⟨rfl, rfl, rfl, rfl, rfl, rfl, rfl⟩, HFL.out⟩
                      clear CP
                      go_wp2_with fail
                      go_quiet (fail)
                      go_wp2_with fail
                      go_ret
                      exact ⟨by rw [HE.out]; rfl, ll, m2, HFI.out.1.drewN nq, HFI.out.2⟩
                  · have hq : decide (hd = (cb : Int)) = false := decide_eq_false hq1
                    have hqb : (hd == (cb : Int)) = false := beq_eq_false_iff_ne.2 hq1
                    have HFI : Hid (RMv R t.n m w (t.deliver ca cb) ll m2 wc ∧ Flt ll (t.deliver ca cb)) := by
                      rw [HD.out, if_neg (by rw [← HHD.out, ← HMB.out, ← HMX.out, ← HSV.out]; exact fun e => hq1 e.1)]
                      exact ⟨HM3.out.alk ⟨rfl, rfl, rfl, rfl, rfl, rfl, rfl⟩, HFL.out⟩
                    clear CP
                    go_wp2_with fail
                    go_quiet (fail)
                    go_wp2_with fail
                    go_ret
                    exact ⟨by rw [HE.out]; rfl, ll, m2, HFI.out.1.drewN nq, HFI.out.2⟩
          · clear hno hb hLw hcc htk hno2
            have hm2' : ¬ (cb : Int) = b := by omega
            subst hm1
            go_wp2_with fail
            go_roundw
            case rel => exact ⟨k + 1, by go_num, by have := HL.out; omega, noneS HNO.out HCC.out (by omega), HB.out.alloc (by first | exact HB.out.size | (have := HB.out.size; omega)) _⟩
            case measure => simp [intOf]; omega
        · clear hno hb hLw hcc htk hno2
          have hm1' : ¬ (ca : Int) = a := by omega
          go_wp2_with fail
          go_roundw
          case rel => exact ⟨k + 1, by go_num, by have := HL.out; omega, noneS HNO.out HCC.out (by omega), HB.out.alloc (by first | exact HB.out.size | (have := HB.out.size; omega)) _⟩
          case measure => simp [intOf]; omega
      · have hkl : k = L := by omega
        subst hkl
        have hfl : t.fl a b = [] := by
          refine HF.out.none ha hbn ?_
          rw [List.take_of_length_le (by have := HL.out; omega)] at hno
          exact hno
        have HE : Hid (ev = 5 ∧ t.deliver a b = t) := ⟨by rw [HEV.out, hfl]; rfl, by unfold TS.deliver; rw [hfl]⟩
        have HR0 : Hid (RMv R t.n m w t l m wr ∧ Flt l t) := ⟨(RMv.refl H.out).below hb, HF.out⟩
        clear hno hb hLw hfl
        go_wp2_with fail
        go_ret
        refine ⟨by rw [HE.out.1]; rfl, l, m, ?_⟩
        rw [HE.out.2]
        exact HR0.out
  · rw [if_neg ht, if_neg ht]
    have hw : thereB t.n i = false ∨ (thereB t.n i = true ∧ thereB t.n j = false) ∨ (thereB t.n i = true ∧ thereB t.n j = true ∧ i = j) := by
      cases h1 : thereB t.n i
      · exact .inl rfl
      · cases h2 : thereB t.n j
        · exact .inr (.inl ⟨rfl, rfl⟩)
        · refine .inr (.inr ⟨rfl, rfl, ?_⟩)
          by_cases h3 : i = j
          · exact h3
          · exact absurd ⟨h1, h2, h3⟩ ht
    clear h F O I ht
    rcases hw with h1 | ⟨h1, h2⟩ | ⟨h1, h2, rfl⟩
    · rw [h1] at C1
      go_enter Try.func38, Try.ntmps38
      go_wp2_with fail
      refine C1.out.mono ?_
      rintro e w1 ⟨rfl, rfl⟩
      go_wp2_with fail
      go_ret
      exact ⟨rfl, l, m, H0.out⟩
    · rw [h1] at C1
      rw [h2] at C2
      go_enter Try.func38, Try.ntmps38
      go_wp2_with fail
      refine C1.out.mono ?_
      rintro e w1 ⟨rfl, rfl⟩
      go_wp2_with fail
      refine C2.out.mono ?_
      rintro e w1 ⟨rfl, rfl⟩
      go_wp2_with fail
      go_ret
      exact ⟨rfl, l, m, H0.out⟩
    · rw [h1] at C1
      go_enter Try.func38, Try.ntmps38
      go_wp2_with fail
      refine C1.out.mono ?_
      rintro e w1 ⟨rfl, rfl⟩
      go_wp2_with fail
      refine C1.out.mono ?_
      rintro e w1 ⟨rfl, rfl⟩
      go_wp2_with fail
      go_ret
      exact ⟨rfl, l, m, H0.out⟩
end
end Go.Proofs.Ytahjgdikjaakbaa
