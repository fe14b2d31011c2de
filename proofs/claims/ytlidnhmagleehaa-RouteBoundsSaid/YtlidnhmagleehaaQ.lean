/- What is proved: Bound, its walk. No condition beyond those in each statement. -/
import Derived.Test.YtlidnhmagleehaaP
namespace Go.Proofs.Ytlidnhmagleehaa
open Go.RowKit

def BoundR (n : Int) (es : List (Int × Int)) : Int × Int :=
  if checkF n es ≠ 0 then (0, checkF n es) else if n < 2 then (0, 5) else match bndF n.toNat es with
  | none => (0, 5)
  | some b => (b, 0)
def moreA (n : Nat) (es : List (Int × Int)) (R : List Bool) (a : Nat) : List Bool := (List.range n).map fun b => R.getD b false || (List.range a).any fun a' => R.getD a' false && adjB es a' b
def mixA (n : Nat) (es : List (Int × Int)) (R : List Bool) (a b : Nat) : List Bool := (List.range n).map fun u => if u < b then (moreA n es R (a + 1)).getD u false else (moreA n es R a).getD u false
theorem moreA_zero {n : Nat} {es : List (Int × Int)} {R : List Bool} (h : R.length = n) : moreA n es R 0 = R := by
  apply List.ext_getElem
  · simp [moreA, h]
  · intro i h1 h2
    simp only [moreA, List.getElem_map, List.getElem_range, List.range_zero, List.any_nil, Bool.or_false]
    rw [List.getD_eq_getElem?_getD, List.getElem?_eq_getElem h2]; rfl
theorem moreA_all (n : Nat) (es : List (Int × Int)) (v t : Nat) : moreA n es (ballF n es v t) n = ballF n es v (t + 1) := rfl
theorem mixA_zero (n : Nat) (es : List (Int × Int)) (R : List Bool) (a : Nat) : mixA n es R a 0 = moreA n es R a := by
  apply List.ext_getElem
  · simp [moreA, mixA]
  · intro i h1 h2
    have hi : i < n := by simpa [mixA] using h1
    simp only [mixA, List.getElem_map, List.getElem_range]
    rw [if_neg (by omega), List.getD_eq_getElem?_getD, List.getElem?_eq_getElem h2]; rfl
theorem mixA_all (n : Nat) (es : List (Int × Int)) (R : List Bool) (a : Nat) : mixA n es R a n = moreA n es R (a + 1) := by
  apply List.ext_getElem
  · simp [moreA, mixA]
  · intro i h1 h2
    have hi : i < n := by simpa [mixA] using h1
    simp only [mixA, List.getElem_map, List.getElem_range]
    rw [if_pos hi, List.getD_eq_getElem?_getD, List.getElem?_eq_getElem h2]; rfl
theorem mixA_len (n : Nat) (es : List (Int × Int)) (R : List Bool) (a b : Nat) : (mixA n es R a b).length = n := by simp [mixA]
theorem moreA_at {n : Nat} (es : List (Int × Int)) (R : List Bool) (a : Nat) {b : Nat} (hb : b < n) : (moreA n es R a).getD b false = (R.getD b false || (List.range a).any fun a' => R.getD a' false && adjB es a' b) := by
  unfold moreA; rw [getD_mapR _ hb]
theorem moreA_succ {n : Nat} (es : List (Int × Int)) (R : List Bool) (a : Nat) {b : Nat} (hb : b < n) : (moreA n es R (a + 1)).getD b false = ((moreA n es R a).getD b false || (R.getD a false && adjB es a b)) := by
  rw [moreA_at es R _ hb, moreA_at es R _ hb, List.range_succ, List.any_append]
  simp [Bool.or_assoc]
theorem mixA_at {n : Nat} (es : List (Int × Int)) (R : List Bool) (a : Nat) {b : Nat} (hb : b < n) : (mixA n es R a b)[b]'(by rw [mixA_len]; exact hb) = (moreA n es R a).getD b false := by
  simp only [mixA, List.getElem_map, List.getElem_range]
  rw [if_neg (by omega)]
theorem mixA_step {n : Nat} (es : List (Int × Int)) (R : List Bool) (a : Nat) {b : Nat} (hb : b < n) : (mixA n es R a b).set b ((moreA n es R a).getD b false || (R.getD a false && adjB es a b)) = mixA n es R a (b + 1) := by
  apply List.ext_getElem
  · simp [mixA]
  · intro i h1 h2
    have hi : i < n := by simpa [mixA] using h2
    rw [List.getElem_set]
    simp only [mixA, List.getElem_map, List.getElem_range]
    by_cases e : b = i
    · subst e
      rw [if_pos rfl, if_pos (by omega), moreA_succ es R a hb]
    · rw [if_neg e]
      by_cases c : i < b
      · rw [if_pos c, if_pos (by omega)]
      · rw [if_neg c, if_neg (by omega)]
theorem ball_start (n v : Nat) (es : List (Int × Int)) : (List.replicate n false).set v true = ballF n es v 0 := by
  apply List.ext_getElem
  · simp [ballF]
  · intro i h1 h2
    rw [List.getElem_set]
    simp only [ballF, List.getElem_map, List.getElem_range, List.getElem_replicate]
    by_cases e : v = i
    · subst e; simp
    · rw [if_neg e]; symm; rw [beq_eq_false_iff_ne]; omega
theorem adj_take {es : List (Int × Int)} {i x y : Nat} (hi : i < es.length) (he : es[i] = ((x : Int), (y : Int))) (a b : Nat) :
    adjB (es.take (i + 1)) a b = (adjB (es.take i) a b || (decide (a = x) && decide (b = y)) || (decide (a = y) && decide (b = x))) := by
  unfold adjB
  rw [List.take_succ_eq_append_getElem hi, List.any_append, he, Bool.or_assoc]
  congr 1
  simp only [List.any_cons, List.any_nil, Bool.or_false]
  have k1 : (((x : Int) == (a : Int)) : Bool) = decide (a = x) := by rw [Bool.eq_iff_iff]; simp; omega
  have k2 : (((y : Int) == (b : Int)) : Bool) = decide (b = y) := by rw [Bool.eq_iff_iff]; simp; omega
  have k3 : (((x : Int) == (b : Int)) : Bool) = decide (b = x) := by rw [Bool.eq_iff_iff]; simp; omega
  have k4 : (((y : Int) == (a : Int)) : Bool) = decide (a = y) := by rw [Bool.eq_iff_iff]; simp; omega
  rw [k1, k2, k3, k4, Bool.and_comm (decide (b = x))]
def Ph1 (w : World) (N gj n : Nat) (s : Value) (wr : World) : Prop := ∃ rs : List Nat, s = .int .i64 rs.length ∧ Hid (RowsOk wr N gj n rs fun _ _ => false) ∧ Hid (Below N w wr) ∧ rs.length ≤ n
def Ph2 (w : World) (N gj n : Nat) (rs : List Nat) (es : List (Int × Int)) (ne : Nat) (s : Value) (wr : World) : Prop :=
  ∃ i : Nat, s = .int .i64 i ∧ i ≤ ne ∧ Hid (RowsOk wr N gj n rs (adjB (es.take i))) ∧ Hid (Below N w wr)

def Ph3 (w : World) (N gj n : Nat) (rs : List Nat) (es : List (Int × Int)) (gh : Nat) (s11 s12 s67 : Value) (wr : World) : Prop :=
  ∃ v D d : Nat, s11 = .int .i64 D ∧ s12 = .int .i64 d ∧ s67 = .int .i64 v ∧ v ≤ n ∧ gh = n - v ∧ D ≤ n ∧ d ≤ n ∧ (0 < v → 1 ≤ D) ∧ Hid (bndGo n es (List.range n) 0 0 = bndGo n es (List.range' v (n - v)) D d) ∧ Hid (RowsOk wr N gj n rs (adjB es)) ∧ Hid (Below N w wr)
theorem deg_small (n : Nat) (es : List (Int × Int)) (v : Nat) : degN n es v ≤ n := by
  unfold degN
  have := List.length_filter_le (adjB es v) (List.range n)
  simpa using this
theorem deg_take (f : Nat → Bool) (k : Nat) : ((List.range (k + 1)).filter f).length = ((List.range k).filter f).length + if f k then 1 else 0 := by
  rw [List.range_succ, List.filter_append, List.length_append, List.filter_cons]
  cases f k <;> simp

theorem ecc_some {n v t : Nat} {es : List (Int × Int)} (ht : t < n) (h1 : ∀ s, s < t → fullB (ballF n es v s) = false) (h2 : fullB (ballF n es v t) = true) : eccF n es v = some t := by
  unfold eccF
  rw [List.find?_range_eq_some]
  refine ⟨h2, List.mem_range.2 ht, fun j hj => ?_⟩
  rw [h1 j hj]; rfl
theorem ecc_none {n v : Nat} {es : List (Int × Int)} (h1 : ∀ s, s < n → fullB (ballF n es v s) = false) : eccF n es v = none := by
  unfold eccF
  rw [List.find?_eq_none]
  intro t ht
  rw [h1 t (List.mem_range.1 ht)]; simp
def Ph5 (W : World) (N n : Nat) (es : List (Int × Int)) (v D : Nat) (gh : Nat) (s11 s17 s18 : Value) (wr : World) : Prop :=
  ∃ t gr c' : Nat, s11 = .int .i64 D ∧ s17 = .slice (some ⟨gr, 0, none⟩) n c' ∧ s18 = .int .i64 t ∧ t ≤ n ∧ gh = n - t ∧ Hid (ArrB wr N gr c' (ballF n es v t)) ∧ Hid (∀ s, s < t → fullB (ballF n es v s) = false) ∧ Hid (Below W.heap.size W wr) ∧ W.heap.size ≤ gr
def Ph6 (w5 : World) (N g6 c6 n : Nat) (es : List (Int × Int)) (R : List Bool) (s : Value) (wr : World) : Prop :=
  ∃ a : Nat, s = .int .i64 a ∧ a ≤ n ∧ Hid (ArrB wr N g6 c6 (moreA n es R a)) ∧ Hid (Bo N g6 w5 wr)
def Ph7 (w5 : World) (N g6 c6 n : Nat) (es : List (Int × Int)) (R : List Bool) (a : Nat) (s : Value) (wr : World) : Prop :=
  ∃ b : Nat, s = .int .i64 b ∧ b ≤ n ∧ Hid (ArrB wr N g6 c6 (mixA n es R a b)) ∧ Hid (Bo N g6 w5 wr)

set_option maxRecDepth 100000 in
set_option maxHeartbeats 16000000 in
theorem bound_calls (n : Int) (B : Option Addr) (ne ce : Nat) (es : List (Int × Int)) (w : World) (hne : ne = es.length) (hB : RdE w B es) (hle : ne ≤ ce) (hce : ce ≤ 9223372036854775807) :
    Calls Try.prog 28 #[.int .i64 n, .slice B ne ce] w fun e w' => e = .returned (.tuple #[.int .i64 (BoundR n es).1, .int .i64 (BoundR n es).2]) ∧ Below w.heap.size w w' := by
  have CC := Lib.hid (check_calls B ne ce es n w hne hB hle hce)
  have HB := Lib.hid hB
  have HNE := Lib.hid hne
  have hne63 : (ne : Int) ≤ 9223372036854775807 := by omega
  clear hne hB
  rcases check_val n es with ⟨hv, h30, hn, hbad⟩ | hv
  case' inr =>
    obtain ⟨r, hr, hr0⟩ : ∃ q : Int, checkF n es = q ∧ (q = 1 ∨ q = 3) := ⟨_, rfl, hv⟩
    have HQ := Lib.hid hr
    have HBR : Hid (BoundR n es = (0, r)) := by show _ = _; unfold BoundR; rw [if_pos (by omega), hr]
    clear hv hr
    rcases hr0 with rfl | rfl
    all_goals
      go_enter Try.func28, Try.ntmps28
      go_wp2_with fail
      go_step3
      go_wp2_with fail
      refine CC.out.mono ?_
      rw [HQ.out]
      rintro e w1 ⟨rfl, hB⟩
      have HB1 := Lib.hid hB
      clear hB
      go_wp2_with fail
      try rw [Exit.noGoto_ret]
      go_ret2
      exact ⟨by rw [HBR.out]; rfl, HB1.out⟩
  case inl =>
    obtain ⟨q, rfl⟩ : ∃ q : Nat, n = q := ⟨n.toNat, by omega⟩
    have HV := Lib.hid hv
    by_cases h2 : q < 2
    · have HBR : Hid (BoundR q es = (0, 5)) := by show _ = _; unfold BoundR; rw [if_neg (by omega), if_pos (by omega)]
      clear hv hbad
      go_enter Try.func28, Try.ntmps28
      go_wp2_with fail
      go_step3
      go_wp2_with fail
      refine CC.out.mono ?_
      rw [HV.out]
      rintro e w1 ⟨rfl, hB⟩
      have HB1 := Lib.hid hB
      clear hB
      go_wp2_with fail
      try rw [Exit.noGoto_ret]
      go_ret2
      exact ⟨by rw [HBR.out]; rfl, HB1.out⟩
    · have HBR : Hid (BoundR q es = match bndF q es with | none => (0, 5) | some b => (b, 0)) := by
        show _ = _; unfold BoundR; rw [if_neg (by omega), if_neg (by omega), Int.toNat_natCast]
      have hq : 2 ≤ q ∧ q ≤ 8 := by omega
      have HG := Lib.hid (edOk_of hbad).2
      clear hv hbad hn h2
      go_enter Try.func28, Try.ntmps28
      go_wp2_with fail
      go_step3
      go_wp2_with fail
      refine CC.out.mono ?_
      rw [HV.out]
      rintro e w1 ⟨rfl, hB⟩
      have HB1 := Lib.hid hB
      obtain ⟨w2, hmk, harr, hB2⟩ := arrV_made q (by omega) w1
      obtain ⟨N, hN⟩ : ∃ N, N = w.heap.size := ⟨_, rfl⟩
      obtain ⟨gj, hgj⟩ : ∃ g, g = w1.heap.size := ⟨_, rfl⟩
      have hNg : N ≤ gj := by rw [hN, hgj]; exact hB.size
      have HR2 : Hid (RowsOk w2 N gj q [] fun _ _ => false) := by
        refine RowsOk.nil ?_ _
        rw [hgj, hN]
        exact ⟨harr.1, by
          rcases harr.2 with h | ⟨g', cap, cur, e', hb', h⟩
          · exact .inl h
          · exact .inr ⟨g', cap, cur, e', Nat.le_trans hB.size hb', h⟩⟩
      have HB2 : Hid (Below N w w2) := by rw [hN]; exact hB.trans (hB2.mono hB.size)
      have HN := Lib.hid hN
      rw [← hgj] at hmk
      clear hB harr hB2 hgj hN
      go_wp2_with fail
      clear hmk
      go_loopw [34] (Ph1 w N gj q) (fun s _ => q - (intOf s).toNat)
      case atStart => exact ⟨[], rfl, HR2, HB2, Nat.zero_le _⟩
      case round =>
        obtain ⟨rs, rfl, HRo, HBr, hrl⟩ := hrel
        obtain ⟨i, hi⟩ : ∃ i, rs.length = i := ⟨_, rfl⟩
        rw [hi] at hrl ⊢
        by_cases hlt : i < q
        · obtain ⟨w3, hmk, harr, hB3⟩ := arrB_made q (by omega) wr
          have h1 := HRo.out.1
          have hil : i < (rs.map (slV q) ++ List.replicate (q - rs.length) (Value.slice none 0 0)).length := by simp; omega
          have c1 := (hB3.cell (p := ⟨gj, i, none⟩) h1.lt.2).trans (h1.at i hil)
          have f1 := (hB3.frozen (p := ⟨gj, i, none⟩) h1.lt.2).trans (h1.free i)
          have HP : Hid (RowsOk (w3.setCell ⟨gj, i, none⟩ (.slice (some ⟨wr.heap.size, 0, none⟩) q q)) N gj q (rs ++ [wr.heap.size]) fun _ _ => false) := by
            have := rows_push HRo.out (by omega) hB3 (Nat.le_refl _) (by
              have e : (List.range q).map (fun _ : Nat => false) = List.replicate q false := by rw [List.eq_replicate_iff]; simp
              rw [e]
              exact harr.weaken (Nat.le_trans (by have := HRo.out.1.lt; omega) (Nat.le_refl _)))
            rw [hi] at this
            exact this
          have HB3 : Hid (Below N w (w3.setCell ⟨gj, i, none⟩ (.slice (some ⟨wr.heap.size, 0, none⟩) q q))) := (HBr.out.trans (hB3.mono (by have := HRo.out.1.lt; omega))).setCell hNg _
          have HI := Lib.hid hi
          obtain ⟨V, hV⟩ : ∃ V, V = (rs.map (slV q) ++ List.replicate (q - rs.length) (Value.slice none 0 0))[i] := ⟨_, rfl⟩
          rw [← hV] at c1
          clear harr hB3 h1 hil hi hV
          go_wp2_with fail
          go_roundw
          case rel => exact ⟨rs ++ [wr.heap.size], int_eq (by rw [List.length_append]; have := HI.out; simp; omega), HP, HB3, by rw [List.length_append]; have := HI.out; simp; omega⟩
          case measure => simp [intOf]; omega
        · have hrl2 : rs.length = q := by omega
          have HRL := Lib.hid hrl2
          have HJ0 : Hid (RowsOk wr N gj q rs (adjB (es.take 0))) := HRo.out
          clear hrl2 hi HRo
          obtain ⟨W1, hW1⟩ : ∃ W, W = wr := ⟨_, rfl⟩
          rw [← hW1] at HJ0 HBr ⊢
          clear hW1
          go_wp2_with fail
          go_loopw [45] (Ph2 w N gj q rs es ne) (fun s _ => ne - (intOf s).toNat)
          case atStart => exact ⟨0, rfl, Nat.zero_le _, HJ0, HBr⟩
          case round =>
            obtain ⟨k, rfl, hk, HRo, HBr2⟩ := hrel
            by_cases hltk : k < ne
            · have hkl : k < es.length := by have := HNE.out; omega
              obtain ⟨b, o, rfl, hb, hc1, hc2⟩ := HB.out.at k hkl
              have HBw : Hid (Below w.heap.size w wr) := by have := HBr2.out; rw [HN.out] at this; exact this
              have d1 := (HBw.out.cell (p := ⟨b, o + k * 2, none⟩) hb).trans hc1
              have d2 := (HBw.out.cell (p := ⟨b, o + k * 2 + 1, none⟩) hb).trans hc2
              have hed := HG.out es[k] (List.getElem_mem hkl)
              obtain ⟨x, y, hxy⟩ : ∃ x y : Nat, es[k] = ((x : Int), (y : Int)) := ⟨es[k].1.toNat, es[k].2.toNat, by ext <;> (show _ = _; omega)⟩
              rw [hxy] at d1 d2 hed
              simp only at d1 d2 hed
              have hxq : x < q ∧ y < q ∧ x ≠ y := by omega
              obtain ⟨wx, hwx⟩ : ∃ wx, wx = wr.alloc (.cells #[.int .i64 x, .int .i64 y] 55) := ⟨_, rfl⟩
              have hBx : Below wr.heap.size wr wx := by rw [hwx]; exact (Below.refl _ _).alloc (Nat.le_refl _) _
              obtain ⟨e1, e2⟩ := box_two wr (.int .i64 x) (.int .i64 y) 55
              rw [← hwx] at e1 e2
              have HRx : Hid (RowsOk wx N gj q rs (adjB (es.take k))) := HRo.out.same fun b hb => hBx.block b hb
              obtain ⟨rx, cx, nx1, nx2, ax, erx⟩ := rows_at HRx.out HRL.out hxq.1
              obtain ⟨ry, cy, ny1, ny2, ay, ery⟩ := rows_at HRx.out HRL.out hxq.2.1
              have fx := ax.free y
              have fy := ay.free x
              have hyl : y < ((List.range q).map (adjB (es.take k) x)).length := by simp; omega
              have hxl : x < ((List.range q).map (adjB (es.take k) y)).length := by simp; omega
              have gx := ax.at y hyl
              have gy := ay.at x hxl
              obtain ⟨V1, hV1⟩ : ∃ V, V = ((List.range q).map (adjB (es.take k) x))[y] := ⟨_, rfl⟩
              obtain ⟨V2, hV2⟩ : ∃ V, V = ((List.range q).map (adjB (es.take k) y))[x] := ⟨_, rfl⟩
              rw [← hV1] at gx
              rw [← hV2] at gy
              have HED : Hid (∀ nn : Nat, RowsOk (((wx.drewN nn).setCell ⟨rx, y, none⟩ (.bool true)).setCell ⟨ry, x, none⟩ (.bool true)) N gj q rs (adjB (es.take (k + 1))) ∧ Below N w (((wx.drewN nn).setCell ⟨rx, y, none⟩ (.bool true)).setCell ⟨ry, x, none⟩ (.bool true))) := by
                intro nn
                have hr' : RowsOk (wx.drewN nn) N gj q rs (adjB (es.take k)) := HRx.out.same fun _ _ => rfl
                obtain ⟨g1, _, g3⟩ := rows_edge hr' HRL.out hxq.1 hxq.2.1 hxq.2.2 erx ery (adj_take hkl hxy)
                refine ⟨g1, (below_drewN (HBr2.out.trans (hBx.mono (by have := HRo.out.1.lt; omega))) nn).trans g3⟩
              have hgne : gj ≠ wr.heap.size := by have := HRo.out.1.lt; omega
              have hwxs : wr.heap.size < wx.heap.size := by rw [hwx]; simp
              have hrxb : rx < wr.heap.size := by
                obtain ⟨r', c', _, hr', _, er'⟩ := rows_at HRo.out HRL.out hxq.1
                rw [← erx, er']; exact hr'
              have hryb : ry < wr.heap.size := by
                obtain ⟨r', c', _, hr', _, er'⟩ := rows_at HRo.out HRL.out hxq.2.1
                rw [← ery, er']; exact hr'
              have hrne : rx ≠ ry := by
                rw [← erx, ← ery]
                intro e
                have a1 : x < rs.length := by rw [HRL.out]; exact hxq.1
                have a2 : y < rs.length := by rw [HRL.out]; exact hxq.2.1
                rw [List.getD_eq_getElem?_getD, List.getElem?_eq_getElem a1, List.getD_eq_getElem?_getD, List.getElem?_eq_getElem a2] at e
                exact hxq.2.2 (nodup_inj HRx.out.2.2.2.1 a1 a2 e)
              have so : ∀ (g j b i : Nat) (v : Value), g ≠ b → (wx.setCell ⟨g, j, none⟩ v).cell? ⟨b, i, none⟩ = wx.cell? ⟨b, i, none⟩ := fun g j b i v h => set_other h i
              have s1 := (so rx y wr.heap.size 0 (.bool true) (by omega)).trans e1
              have s2 := (so rx y wr.heap.size 1 (.bool true) (by omega)).trans e2
              have s3 := (so ry x wr.heap.size 0 (.bool true) (by omega)).trans e1
              have s4 := (so ry x wr.heap.size 1 (.bool true) (by omega)).trans e2
              have s5 := (so rx y gj x (.bool true) nx1).trans cx
              have s6 := (so rx y gj y (.bool true) nx1).trans cy
              have s7 := (so ry x gj x (.bool true) ny1).trans cx
              have s8 := (so ry x gj y (.bool true) ny1).trans cy
              have s9 := (so rx y ry x (.bool true) hrne).trans gy
              have s10 := (so ry x rx y (.bool true) hrne.symm).trans gx
              have HED2 : Hid (∀ nn : Nat, RowsOk (((wx.drewN nn).setCell ⟨ry, x, none⟩ (.bool true)).setCell ⟨rx, y, none⟩ (.bool true)) N gj q rs (adjB (es.take (k + 1))) ∧ Below N w (((wx.drewN nn).setCell ⟨ry, x, none⟩ (.bool true)).setCell ⟨rx, y, none⟩ (.bool true))) := by
                intro nn
                have hr' : RowsOk (wx.drewN nn) N gj q rs (adjB (es.take k)) := HRx.out.same fun _ _ => rfl
                obtain ⟨g1, _, g3⟩ := rows_edge (J' := adjB (es.take (k + 1))) hr' HRL.out hxq.2.1 hxq.1 (fun e => hxq.2.2 e.symm) ery erx (fun a b => by
                  rw [adj_take hkl hxy a b, Bool.or_assoc, Bool.or_assoc, Bool.or_comm (decide (a = x) && decide (b = y))])
                refine ⟨g1, (below_drewN (HBr2.out.trans (hBx.mono (by have := HRo.out.1.lt; omega))) nn).trans g3⟩
              clear hc1 hc2 hxy erx ery ax ay hyl hxl hV1 hV2 hBx so
              go_wp2_with fail
              rw [← hwx]
              clear hwx
              go_region
              all_goals
                clear s1 s2 s3 s4 s5 s6 s7 s8 s9 s10 e1 e2 gx gy fx fy cx cy d1 d2
                go_wp2_with fail
                go_roundw
                case rel => first | exact ⟨k + 1, by go_num, by omega, (HED.out 1).1, (HED.out 1).2⟩ | exact ⟨k + 1, by go_num, by omega, (HED2.out 1).1, (HED2.out 1).2⟩
                case measure => simp [intOf]; omega
            · have HRo2 : Hid (RowsOk wr N gj q rs (adjB es)) := by
                have := HRo.out
                rw [List.take_of_length_le (by have := HNE.out; omega)] at this
                exact this
              obtain ⟨W2, hW2⟩ : ∃ W, W = wr := ⟨_, rfl⟩
              rw [← hW2] at HRo2 HBr2 ⊢
              clear hW2 HRo
              go_wp2_with fail
              go_step3
              go_wp2_with fail
              go_loopg [11, 12, 67] q (Ph3 w N gj q rs es)
              case atStart => exact ⟨0, 0, 0, rfl, rfl, rfl, Nat.zero_le _, by omega, by omega, by omega, by omega, by show _ = _; rw [List.range_eq_range']; rfl, HRo2, HBr2⟩
              case round =>
                obtain ⟨v, D, d, rfl, rfl, rfl, hv, hgh, hD, hd, hv1, HGO, HRo3, HBr3⟩ := hrel
                by_cases hltv : v < q
                · have hltvd : decide ((v : Int) < q) = true := decide_eq_true (by omega)
                  obtain ⟨rv, cv, nv1, nv2, av, erv⟩ := rows_at HRo3.out HRL.out hltv
                  have HAV := Lib.hid av
                  have hgo := HGO.out
                  rw [show q - v = (q - (v + 1)) + 1 by omega, List.range'_succ] at hgo
                  have HGO2 : Hid (bndGo q es (List.range q) 0 0 = match eccF q es v with | none => none | some t => bndGo q es (List.range' (v + 1) (q - (v + 1))) (max D t) (max d (degN q es v))) := hgo
                  have hds := deg_small q es v
                  clear hgo av erv
                  obtain ⟨W3, hW3⟩ : ∃ W, W = wr := ⟨_, rfl⟩
                  rw [← hW3] at HRo3 HBr3 HAV cv nv2 ⊢
                  clear hW3
                  go_wp2_with fail
                  go_loop [14, 75] (fun s p => ∃ k : Nat, p = .int .i64 k ∧ k ≤ q ∧ s = .int .i64 ((((List.range k).filter (adjB es v)).length : Nat) : Int)) (fun _ p => q - (intOf p).toNat)
                  case atStart => exact ⟨0, rfl, Nat.zero_le _, rfl⟩
                  case round =>
                    obtain ⟨k, rfl, hk, rfl⟩ := hrel
                    have hfl := List.length_filter_le (adjB es v) (List.range k)
                    rw [List.length_range] at hfl
                    have HDT := Lib.hid (deg_take (adjB es v) k)
                    obtain ⟨M, hM⟩ : ∃ M, M = ((List.range k).filter (adjB es v)).length := ⟨_, rfl⟩
                    rw [← hM] at hfl HDT ⊢
                    by_cases hltk2 : k < q
                    · have hkl : k < ((List.range q).map (adjB es v)).length := by simp; exact hltk2
                      have g1 := HAV.out.at k hkl
                      rw [List.getElem_map, List.getElem_range] at g1
                      clear hM hkl
                      cases hak : adjB es v k
                      · rw [hak] at g1 HDT
                        have HDT2 : Hid (((List.range (k + 1)).filter (adjB es v)).length = M) := HDT
                        go_wp2_with fail
                        go_round
                        case rel => exact ⟨k + 1, by go_num, by omega, by rw [HDT2.out]⟩
                        case measure => simp [intOf]; omega
                      · rw [hak] at g1 HDT
                        have HDT2 : Hid (((List.range (k + 1)).filter (adjB es v)).length = M + 1) := HDT
                        go_wp2_with fail
                        go_round
                        case rel => exact ⟨k + 1, by go_num, by omega, by rw [HDT2.out]; go_num⟩
                        case measure => simp [intOf]; omega
                    · have HM : Hid (M = degN q es v) := by show _ = _; rw [hM, show k = q by omega]; rfl
                      have hMd : M ≤ q := by omega
                      clear hM
                      obtain ⟨w4, hmk, harr, hB4⟩ := arrB_made q (by omega) W3
                      have hWN : N ≤ W3.heap.size := by have := HRo3.out.1.lt; omega
                      have hv0 : v < (List.replicate q false).length := by simp; exact hltv
                      have c1 := harr.at v hv0
                      have f1 := harr.free v
                      have hset := harr.set v true
                      rw [ball_start] at hset
                      have HA4 : Hid (ArrB (w4.setCell ⟨W3.heap.size, v, none⟩ (.bool true)) N W3.heap.size q (ballF q es v 0)) := hset.1.weaken hWN
                      have HB4 : Hid (Below W3.heap.size W3 (w4.setCell ⟨W3.heap.size, v, none⟩ (.bool true))) := hB4.trans hset.2.1
                      have HDT' := Lib.hid HDT
                      rw [List.getElem_replicate] at c1
                      clear harr hB4 hset hv0 HDT'
                      rcases Nat.lt_or_ge d M with hdm | hdm
                      all_goals
                        go_wp2_with fail
                        go_loopg [11, 17, 18] q (Ph5 W3 N q es v D)
                        case atStart => exact ⟨0, W3.heap.size, q, rfl, rfl, rfl, Nat.zero_le _, rfl, HA4, fun s hs => absurd hs (Nat.not_lt_zero _), HB4, Nat.le_refl _⟩
                        case round =>
                          obtain ⟨t, gr, cr, rfl, rfl, rfl, ht, hgh5, HAB, HNF, HB5, hgr⟩ := hrel
                          have HRo5 : Hid (RowsOk wr N gj q rs (adjB es)) := HRo3.out.same fun b hb => HB5.out.block b hb
                          by_cases hltt : t < q
                          · have hbl := ball_len q es v t
                            have CC2 := Lib.hid (containsB_calls N gr cr (ballF q es v t) false q wr hbl.symm HAB.out (by rw [hbl]; omega))
                            have HBL := Lib.hid hbl
                            clear hbl
                            cases hfull : fullB (ballF q es v t)
                            · have hany : ((ballF q es v t).any fun u => false == u) = true := by unfold fullB at hfull; simpa using hfull
                              have HANY := Lib.hid hany
                              have HFU := Lib.hid hfull
                              clear hany hfull
                              go_wp2_with fail
                              refine CC2.out.mono ?_
                              rw [HANY.out]
                              rintro e u1 ⟨rfl, rfl⟩
                              go_wp2_with fail
                              refine (cloneB_calls N gr q cr (ballF q es v t) _ HBL.out.symm HAB.out (by have := HBL.out; omega)).mono ?_
                              rintro e w5 ⟨g6, c6, rfl, hA6, hB6⟩
                              have hg6 := hA6.lt
                              have hgrl := HAB.out.lt
                              have HA6 : Hid (ArrB w5 N g6 c6 (moreA q es (ballF q es v t) 0)) := by
                                show ArrB _ _ _ _ _
                                rw [moreA_zero HBL.out]; exact hA6.weaken (by omega)
                              have HAB6 := Lib.hid (HAB.out.below hB6)
                              have HRo6 : Hid (RowsOk w5 N gj q rs (adjB es)) := HRo5.out.same fun b hb => hB6.block b hb
                              have HB56 : Hid (Below W3.heap.size W3 w5) := HB5.out.trans (hB6.mono HB5.out.size)
                              have hgne : gr ≠ g6 := by omega
                              have hgjne : gj ≠ g6 := by have := HRo5.out.1.lt; omega
                              have HRNE : Hid (∀ x (hx : x < q) r, rs.getD x 0 = r → r ≠ g6) := by
                                intro x hx r er
                                obtain ⟨r', _, _, hr', _, er'⟩ := rows_at HRo5.out HRL.out hx
                                have : r = r' := by rw [← er, er']
                                omega
                              have HG6 : Hid (W3.heap.size ≤ g6) := by show _ ≤ _; have := HB5.out.size; omega
                              clear hA6 hB6 hg6 hgrl
                              go_wp2_with fail
                              go_loopw [105] (Ph6 w5 N g6 c6 q es (ballF q es v t)) (fun s _ => q - (intOf s).toNat)
                              case atStart => exact ⟨0, rfl, Nat.zero_le _, HA6, Bo.refl _ _ _⟩
                              case round =>
                                obtain ⟨a, rfl, ha, HAM, HBO⟩ := hrel
                                by_cases hlta : a < q
                                · have hltad : decide ((a : Int) < q) = true := decide_eq_true (by omega)
                                  go_wp2_with fail
                                  go_loopw [109] (Ph7 w5 N g6 c6 q es (ballF q es v t) a) (fun s _ => q - (intOf s).toNat)
                                  case atStart => exact ⟨0, rfl, Nat.zero_le _, by rw [mixA_zero]; exact HAM.out, HBO.out⟩
                                  case round =>
                                    obtain ⟨b, rfl, hb, HAX, HBO2⟩ := hrel
                                    by_cases hltb : b < q
                                    · have hbl2 : b < (mixA q es (ballF q es v t) a b).length := by rw [mixA_len]; exact hltb
                                      have m1 := HAX.out.at b hbl2
                                      rw [mixA_at es _ a hltb] at m1
                                      have mf := HAX.out.free b
                                      have hal : a < (ballF q es v t).length := by rw [HBL.out]; exact hlta
                                      have r1 := (HAB6.out.same (HBO2.out.2 gr hgne)).at a hal
                                      rw [← getD_lt false () hal] at r1
                                      obtain ⟨rv', j1, _, _, aj, er⟩ := rows_at HRo6.out HRL.out hlta
                                      have hrne := HRNE.out a hlta rv' er
                                      have j2 : wr.cell? ⟨gj, a, none⟩ = some (.slice (some ⟨rv', 0, none⟩) q q) := (World.cell?_of_block (a := ⟨gj, a, none⟩) (HBO2.out.2 gj hgjne)).trans j1
                                      have hkl : b < ((List.range q).map (adjB es a)).length := by simp; exact hltb
                                      have j3 := (aj.same (HBO2.out.2 rv' hrne)).at b hkl
                                      rw [List.getElem_map, List.getElem_range] at j3
                                      have HST : Hid (ArrB (wr.setCell ⟨g6, b, none⟩ (.bool ((moreA q es (ballF q es v t) a).getD b false || ((ballF q es v t).getD a false && adjB es a b)))) N g6 c6 (mixA q es (ballF q es v t) a (b + 1)) ∧ Bo N g6 wr (wr.setCell ⟨g6, b, none⟩ (.bool ((moreA q es (ballF q es v t) a).getD b false || ((ballF q es v t).getD a false && adjB es a b))))) := by
                                        have := HAX.out.set b ((moreA q es (ballF q es v t) a).getD b false || ((ballF q es v t).getD a false && adjB es a b))
                                        rw [mixA_step es _ a hltb] at this
                                        exact this
                                      obtain ⟨x1, hx1⟩ : ∃ x, x = (moreA q es (ballF q es v t) a).getD b false := ⟨_, rfl⟩
                                      obtain ⟨x2, hx2⟩ : ∃ x, x = (ballF q es v t).getD a false := ⟨_, rfl⟩
                                      obtain ⟨x3, hx3⟩ : ∃ x, x = adjB es a b := ⟨_, rfl⟩
                                      rw [← hx1] at m1
                                      rw [← hx2] at r1
                                      rw [← hx3] at j3
                                      rw [← hx1, ← hx2, ← hx3] at HST
                                      clear hx1 hx2 hx3 j1 aj er hbl2 hal hkl
                                      cases x1 with
                                      | true =>
                                        go_wp2_with fail
                                        go_roundw
                                        case rel => exact ⟨b + 1, by go_num, by omega, HST.out.1, HBO2.out.trans HST.out.2⟩
                                        case measure => simp [intOf]; omega
                                      | false =>
                                        cases x2 with
                                        | false =>
                                          go_wp2_with fail
                                          go_roundw
                                          case rel => exact ⟨b + 1, by go_num, by omega, HST.out.1, HBO2.out.trans HST.out.2⟩
                                          case measure => simp [intOf]; omega
                                        | true =>
                                          cases x3 with
                                          | true =>
                                            go_wp2_with fail
                                            go_roundw
                                            case rel => exact ⟨b + 1, by go_num, by omega, HST.out.1, HBO2.out.trans HST.out.2⟩
                                            case measure => simp [intOf]; omega
                                          | false =>
                                            go_wp2_with fail
                                            go_roundw
                                            case rel => exact ⟨b + 1, by go_num, by omega, HST.out.1, HBO2.out.trans HST.out.2⟩
                                            case measure => simp [intOf]; omega
                                    · have HAM2 : Hid (ArrB wr N g6 c6 (moreA q es (ballF q es v t) (a + 1))) := by
                                        have := HAX.out
                                        rw [show b = q by omega, mixA_all] at this
                                        exact this
                                      go_wp2_with fail
                                      go_roundw
                                      case rel => exact ⟨a + 1, by go_num, by omega, HAM2, HBO2.out⟩
                                      case measure => simp [intOf]; omega
                                · have HAM2 : Hid (ArrB wr N g6 c6 (ballF q es v (t + 1))) := by
                                    have := HAM.out
                                    rw [show a = q by omega, moreA_all] at this
                                    exact this
                                  have HNF2 : Hid (∀ s, s < t + 1 → fullB (ballF q es v s) = false) := by
                                    intro s hs
                                    rcases Nat.lt_or_ge s t with h | h
                                    · exact HNF.out s h
                                    · rw [show s = t by omega]; exact HFU.out
                                  have HB7 : Hid (Below W3.heap.size W3 wr) := by
                                    refine HB56.out.trans ⟨HBO.out.1.os, HBO.out.1.tape, HBO.out.1.output, HBO.out.1.size, fun b hb => HBO.out.2 b (by have := HG6.out; omega)⟩
                                  go_wp2_with fail
                                  go_roundg (q - (t + 1))
                                  case measure => omega
                                  case rel => exact ⟨t + 1, g6, c6, rfl, rfl, by go_num, by omega, rfl, HAM2, HNF2, HB7, HG6.out⟩
                            · have hany : ((ballF q es v t).any fun u => false == u) = false := by unfold fullB at hfull; simpa using hfull
                              have HANY := Lib.hid hany
                              have HEC := Lib.hid (ecc_some hltt HNF.out hfull)
                              have htp : 1 ≤ t := (ecc_pos hq.1 HEC.out).1
                              have HGO3 : Hid (bndGo q es (List.range q) 0 0 = bndGo q es (List.range' (v + 1) (q - (v + 1))) (max D t) (max d (degN q es v))) := by
                                have := HGO2.out
                                rw [HEC.out] at this
                                exact this
                              have hMM := HM.out
                              have HMX : Hid (∀ z : Nat, (z = M ∧ d < M) ∨ (z = d ∧ M ≤ d) → z = max d (degN q es v)) := by
                                intro z hz
                                rw [hMM] at hz
                                omega
                              clear hany hfull hMM
                              rcases Nat.lt_or_ge D t with hdt | hdt
                              all_goals
                                go_wp2_with fail
                                refine CC2.out.mono ?_
                                rw [HANY.out]
                                rintro e u1 ⟨rfl, rfl⟩
                                go_wp2_with fail
                                go_roundg (q - (v + 1))
                                case measure => omega
                                case rel => exact ⟨v + 1, max D t, max d (degN q es v), int_eq (by omega), int_eq (by first | exact congrArg Int.ofNat (HMX.out _ (.inl ⟨rfl, hdm⟩)) | exact congrArg Int.ofNat (HMX.out _ (.inr ⟨rfl, hdm⟩))), by go_num, by omega, rfl, by omega, by have := deg_small q es v; omega, fun _ => by omega, HGO3, HRo5, HBr3.out.trans (HB5.out.mono (by have := HRo3.out.1.lt; omega))⟩
                          · have HEC : Hid (eccF q es v = none) := ecc_none fun s hs => HNF.out s (by omega)
                            have HBR2 : Hid (BoundR q es = (0, 5)) := by
                              show _ = _
                              rw [HBR.out]
                              have h1 : bndGo q es (List.range q) 0 0 = none := by
                                have := HGO2.out
                                rw [HEC.out] at this
                                exact this
                              unfold bndF
                              rw [h1]
                            have HBE : Hid (Below w.heap.size w wr) := by
                              have := HBr3.out.trans (HB5.out.mono (by have := HRo3.out.1.lt; omega))
                              rw [HN.out] at this
                              exact this
                            go_wp2_with fail
                            try rw [Exit.noGoto_ret]
                            go_ret2
                            exact ⟨by rw [HBR2.out]; rfl, HBE.out⟩
                · have hvq : v = q := by omega
                  have HGO3 : Hid (bndGo q es (List.range q) 0 0 = some (D, d)) := by
                    have := HGO.out
                    rw [hvq, Nat.sub_self] at this
                    exact this
                  have HBR2 : Hid (BoundR q es = (max (((q : Int) - 1 + D - 1) / D) (((d : Int) + 1) / 2), 0)) := by
                    show _ = _
                    rw [HBR.out]
                    unfold bndF
                    rw [HGO3.out]
                  have hD1 : 1 ≤ D := hv1 (by omega)
                  have HBE : Hid (Below w.heap.size w wr) := by
                    have := HBr3.out
                    rw [HN.out] at this
                    exact this
                  obtain ⟨X, hX⟩ : ∃ X : Int, X = ((q : Int) - 1 + D - 1) / D := ⟨_, rfl⟩
                  obtain ⟨Y, hY⟩ : ∃ Y : Int, Y = ((d : Int) + 1) / 2 := ⟨_, rfl⟩
                  rw [← hX, ← hY] at HBR2
                  have hXd : ((q : Int) - 1 + D - 1).tdiv D = X := by rw [hX, Int.tdiv_eq_ediv_of_nonneg (by omega)]
                  have hX0 : 0 ≤ X ∧ X ≤ 1000 := by
                    rw [hX]
                    refine ⟨Int.ediv_nonneg (by omega) (by omega), ?_⟩
                    have h1 := Int.ediv_le_self (D : Int) (a := (q : Int) - 1 + D - 1) (by omega)
                    omega
                  have hD0 : ((D : Int) == 0) = false := by rw [beq_eq_false_iff_ne]; omega
                  have hXe : ((q : Int) - 1 + D - 1) / D = X := hX.symm
                  have hYe : ((d : Int) + 1) / 2 = Y := hY.symm
                  have hY0 : 0 ≤ Y ∧ Y ≤ 1000 := by omega
                  clear hX hY
                  rcases Int.lt_or_le X Y with hxy | hxy
                  all_goals
                    go_wp2_with fail
                    try rw [Exit.noGoto_ret]
                    go_ret2
                    refine ⟨?_, HBE.out⟩
                    rw [HBR2.out]
                    first | (rw [show max X Y = Y by omega]; rfl) | (rw [show max X Y = X by omega]; rfl)
end Go.Proofs.Ytlidnhmagleehaa
