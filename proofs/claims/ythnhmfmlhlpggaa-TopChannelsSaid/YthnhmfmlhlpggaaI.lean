/- What is proved: cuts, cut. No condition beyond those in each statement. -/
import Derived.Test.YthnhmfmlhlpggaaH
namespace Go.Proofs.Ythnhmfmlhlpggaa
open Go.RowKit
set_option maxRecDepth 100000

def bump (xs : List Int) (lo p : Nat) : List Int := (List.range xs.length).map fun j => xs.getD j 0 + if lo ≤ j ∧ j < p then 1 else 0
theorem bump_len (xs : List Int) (lo p : Nat) : (bump xs lo p).length = xs.length := by simp [bump]
theorem bump_get {xs : List Int} {lo p j : Nat} (h : j < xs.length) : (bump xs lo p)[j]'(by rw [bump_len]; exact h) = xs[j] + if lo ≤ j ∧ j < p then 1 else 0 := by
  unfold bump
  rw [List.getElem_map, List.getElem_range, getD_lt _ () h]
theorem bump_nil (xs : List Int) (lo : Nat) : bump xs lo lo = xs := by
  apply List.ext_getElem
  · rw [bump_len]
  · intro j h1 h2
    rw [bump_get h2, if_neg (by omega)]; omega
theorem bump_succ {xs : List Int} {lo p : Nat} (h : lo ≤ p) (hp : p < xs.length) : (bump xs lo p).set p (xs[p] + 1) = bump xs lo (p + 1) := by
  apply List.ext_getElem
  · rw [List.length_set, bump_len, bump_len]
  · intro j h1 h2
    have hj : j < xs.length := by rw [bump_len] at h2; exact h2
    have e1 := bump_get (lo := lo) (p := p + 1) hj
    have e2 := bump_get (lo := lo) (p := p) hj
    rw [List.getElem_set, e1, e2]
    by_cases e : p = j
    · subst e; rw [if_pos rfl, if_pos (by omega)]
    · rw [if_neg e]
      congr 1
      by_cases h3 : lo ≤ j ∧ j < p
      · rw [if_pos h3, if_pos (by omega)]
      · rw [if_neg h3, if_neg (by omega)]
theorem cutsF_len (pl : List Int) (es : List (Int × Int)) : (cutsF pl es).length = pl.length - 1 := by simp [cutsF]
theorem cutsF_nil (pl : List Int) : cutsF pl [] = List.replicate (pl.length - 1) 0 := by
  unfold cutsF
  rw [List.eq_replicate_iff]
  simp
theorem cutsF_get {pl : List Int} {es : List (Int × Int)} {j : Nat} (h : j < (cutsF pl es).length) : (cutsF pl es)[j] = ((es.filter (overB pl j)).length : Int) := by simp [cutsF]
theorem cuts_bump {pl : List Int} {es : List (Int × Int)} {e : Int × Int} {lo hi : Nat} (hlo : min (pl.getD e.1.toNat 0) (pl.getD e.2.toNat 0) = lo) (hhi : max (pl.getD e.1.toNat 0) (pl.getD e.2.toNat 0) = hi) :
    bump (cutsF pl es) lo hi = cutsF pl (es ++ [e]) := by
  apply List.ext_getElem
  · rw [bump_len, cutsF_len, cutsF_len]
  · intro j h1 h2
    have hj : j < (cutsF pl es).length := by rw [bump_len] at h1; exact h1
    rw [bump_get hj, cutsF_get, cutsF_get, List.filter_append, List.length_append, List.filter_cons]
    unfold overB
    rw [hlo, hhi]
    by_cases h3 : lo ≤ j ∧ j < hi
    · rw [if_pos h3, if_pos (by simp; omega)]; simp
    · rw [if_neg h3, if_neg (by simp; omega)]; simp
theorem cuts_small (pl : List Int) (es : List (Int × Int)) : ∀ q ∈ cutsF pl es, 0 ≤ q ∧ q ≤ es.length := by
  intro q hq
  obtain ⟨p, _, rfl⟩ := List.mem_map.1 hq
  have := List.length_filter_le (overB pl p) es
  omega
theorem set_other {w : World} {g j b : Nat} {v : Value} (h : g ≠ b) (i : Nat) : (w.setCell ⟨g, j, none⟩ v).cell? ⟨b, i, none⟩ = w.cell? ⟨b, i, none⟩ :=
  World.cell?_of_block (heap_setCell_other w ⟨g, j, none⟩ b v h.symm)
theorem arr_made (n : Nat) (hn : n ≤ 1000) (w : World) : ∃ w', (Instr.makeSlice 27 (.int .i64 n) (.int .i64 n)).run Try.prog w = .ok (.slice (some ⟨w.heap.size, 0, none⟩) n n) w' ∧ Arr w' w.heap.size w.heap.size n (List.replicate n 0) ∧ Below w.heap.size w w' := by
  obtain ⟨i0, hi, hz0, hz1, hz2⟩ := info_parts info3
  obtain ⟨w0, hmk, hown, hgrow⟩ := run_make_full (P := Try.prog) w w.heap.size 27 3 i0 (.int .i64 0) 1 Try.underlying27 hi hz0 hz1 .i64 .i64 n (by rw [hz2]; omega) (by simp [maxLen]; omega) (Nat.le_refl _)
  refine ⟨w0, hmk, ?_, (Below.refl _ _).grown hgrow (Nat.le_refl _) (fun k e => by cases e)⟩
  unfold Arr Ow
  have : (madeCells (Value.int .i64 0).cells (n * 1)).toList = (List.replicate n (0 : Int)).map (Value.int .i64) := by
    show (madeCells #[.int .i64 0] (n * 1)).toList = _
    rw [toList_madeCells_one]; simp
  rw [this] at hown
  rw [List.length_replicate]
  exact hown

def CutI (w : World) (g k : Nat) (pl : List Int) (es : List (Int × Int)) (ne : Nat) (q : Value) (wr : World) : Prop :=
  ∃ i : Nat, q = .int .i64 i ∧ i ≤ ne ∧ Hid (Arr wr w.heap.size g k (cutsF pl (es.take i))) ∧ Hid (Below w.heap.size w wr)
def CutJ (w : World) (g k wb lo hi : Nat) (x y : Int) (xs : List Int) (q : Value) (wr : World) : Prop :=
  ∃ p : Nat, q = .int .i64 p ∧ lo ≤ p ∧ p ≤ hi ∧ Hid (Arr wr w.heap.size g k (bump xs lo p)) ∧ Hid (Below w.heap.size w wr) ∧ Hid (wr.cell? ⟨wb, 0, none⟩ = some (.int .i64 x) ∧ wr.cell? ⟨wb, 1, none⟩ = some (.int .i64 y))

set_option maxHeartbeats 4000000 in
theorem cuts_calls (A : Option Addr) (m c : Nat) (pl : List Int) (B : Option Addr) (ne ce : Nat) (es : List (Int × Int)) (w : World) (hp : PosOk m pl) (hA : Rd w A pl) (hl : m ≤ c) (_hc : c ≤ 9223372036854775807) (hm8 : m ≤ 8) (hm1 : 1 ≤ m)
    (hne : ne = es.length) (he : EdOk m es) (hB : RdE w B es) (_hle : ne ≤ ce) (_hce : ce ≤ 9223372036854775807) (hn30 : ne ≤ 100) :
    Calls Try.prog 91 #[.slice A m c, .slice B ne ce] w fun e w' => ∃ g, e = .returned (.slice (some ⟨g, 0, none⟩) (m - 1) (m - 1)) ∧ Arr w' w.heap.size g (m - 1) (cutsF pl es) ∧ Below w.heap.size w w' := by
  have HP := Lib.hid hp
  have HA := Lib.hid hA
  have HE := Lib.hid he
  have HB := Lib.hid hB
  have HNE := Lib.hid hne
  clear hp hA he hB hne
  obtain ⟨k, rfl⟩ : ∃ k, m = k + 1 := ⟨m - 1, by omega⟩
  obtain ⟨w0, hmk, harr, hB0⟩ := arr_made k (by omega) w
  have hk1 : ((k + 1 : Nat) : Int) - 1 = k := by omega
  have HAR := Lib.hid harr
  have HB0 := Lib.hid hB0
  clear harr hB0
  show Calls Try.prog 91 _ w fun e w' => ∃ g, e = .returned (.slice (some ⟨g, 0, none⟩) k k) ∧ Arr w' w.heap.size g k (cutsF pl es) ∧ Below w.heap.size w w'
  obtain ⟨m, hm⟩ : ∃ m, m = k + 1 := ⟨_, rfl⟩
  rw [← hm] at hk1 hl HP HE hm8 ⊢
  have HM := Lib.hid hm
  have hmk2 : m ≤ 8 := hm8
  clear hm hm1
  obtain ⟨N, hN⟩ : ∃ N, N = w.heap.size := ⟨_, rfl⟩
  rw [← hN] at hmk HAR
  have HN := Lib.hid hN
  clear hN
  go_enter Try.func91, Try.ntmps91
  go_wp2_with fail
  clear hmk
  go_loopw [15] (CutI w N k pl es ne) (fun q _ => ne - (intOf q).toNat)
  case atStart =>
    refine ⟨0, rfl, Nat.zero_le _, ?_, HB0⟩
    show Arr _ _ _ _ (cutsF pl (es.take 0))
    rw [List.take_zero, cutsF_nil, HP.out.1, show m - 1 = k by have := HM.out; omega, ← HN.out]
    exact HAR.out
  case round =>
    obtain ⟨i, rfl, hi, HAr, HBr⟩ := hrel
    by_cases hlt : i < ne
    · have hil : i < es.length := by have := HNE.out; omega
      obtain ⟨b, o, rfl, hb, hc1, hc2⟩ := HB.out.at i hil
      have d1 := (HBr.out.cell (p := ⟨b, o + i * 2, none⟩) hb).trans hc1
      have d2 := (HBr.out.cell (p := ⟨b, o + i * 2 + 1, none⟩) hb).trans hc2
      have hed := HE.out es[i] (List.getElem_mem hil)
      obtain ⟨x, y, hxy⟩ : ∃ x y : Nat, es[i] = ((x : Int), (y : Int)) := ⟨es[i].1.toNat, es[i].2.toNat, by ext <;> (show _ = _; omega)⟩
      rw [hxy] at d1 d2 hed
      simp only at d1 d2 hed
      have hxl : x < pl.length := by rw [HP.out.1]; omega
      have hyl : y < pl.length := by rw [HP.out.1]; omega
      have hq1 := HP.out.at hed.1
      have hq2 := HP.out.at hed.2
      rw [Int.toNat_natCast] at hq1 hq2
      obtain ⟨px, hpx⟩ : ∃ px : Nat, pl.getD x 0 = px := ⟨(pl.getD x 0).toNat, by omega⟩
      obtain ⟨py, hpy⟩ : ∃ py : Nat, pl.getD y 0 = py := ⟨(pl.getD y 0).toNat, by omega⟩
      obtain ⟨ba, oa, rfl, hba, hca⟩ := HA.out.at x hxl
      have hcb := HA.out.at2 y hyl
      rw [getD_lt _ () hxl] at hpx
      rw [getD_lt _ () hyl] at hpy
      rw [hpx] at hca
      rw [hpy] at hcb
      have HCS : Hid (cutsF pl (es.take (i + 1)) = bump (cutsF pl (es.take i)) (min px py) (max px py)) := by
        show _ = _
        rw [List.take_succ_eq_append_getElem hil]
        refine (cuts_bump ?_ ?_).symm
        · rw [hxy]; simp only; rw [Int.toNat_natCast, Int.toNat_natCast, getD_lt _ () hxl, getD_lt _ () hyl, hpx, hpy]; omega
        · rw [hxy]; simp only; rw [Int.toNat_natCast, Int.toNat_natCast, getD_lt _ () hxl, getD_lt _ () hyl, hpx, hpy]; omega
      have hpm : px < m ∧ py < m := by
        rw [getD_lt _ () hxl, hpx] at hq1
        rw [getD_lt _ () hyl, hpy] at hq2
        omega
      have hcl : (cutsF pl (es.take i)).length = k := by rw [cutsF_len, HP.out.1]; have := HM.out; omega
      obtain ⟨lo, hlo⟩ : ∃ lo, lo = min px py := ⟨_, rfl⟩
      obtain ⟨hi', hhi⟩ : ∃ q, q = max px py := ⟨_, rfl⟩
      rw [← hlo, ← hhi] at HCS
      obtain ⟨xs, hxs⟩ : ∃ xs, xs = cutsF pl (es.take i) := ⟨_, rfl⟩
      have hsm := cuts_small pl (es.take i)
      rw [List.length_take] at hsm
      rw [← hxs] at HCS hcl hsm HAr
      have HSM := Lib.hid hsm
      have HCL := Lib.hid hcl
      have hgl := HAr.out.lt
      obtain ⟨wx, hwx⟩ : ∃ wx, wx = wr.alloc (.cells #[.int .i64 x, .int .i64 y] 26) := ⟨_, rfl⟩
      have hBx : Below wr.heap.size wr wx := by rw [hwx]; exact (Below.refl _ _).alloc (Nat.le_refl _) _
      obtain ⟨e1, e2⟩ := box_two wr (.int .i64 x) (.int .i64 y) 26
      rw [← hwx] at e1 e2
      have HE12 := Lib.hid (And.intro e1 e2)
      have HArx := Lib.hid (HAr.out.below hBx)
      have HBx := Lib.hid (HBr.out.trans (hBx.mono HBr.out.size))
      have HCA := Lib.hid hca
      have HCB := Lib.hid hcb
      have hwN : N < wr.heap.size := hgl.2
      have hLO := Lib.hid hlo
      have hHI := Lib.hid hhi
      have fa := (HBx.out.cell (p := ⟨ba, oa + x, none⟩) hba).trans hca
      have fb := (HBx.out.cell (p := ⟨ba, oa + y, none⟩) hba).trans hcb
      have b1 : (0 : Int) ≤ x ∧ (x : Int) < m := by omega
      have b2 : (0 : Int) ≤ y ∧ (y : Int) < m := by omega
      have w1 : IntKind.i64.wrap (x : Int) = x := IntWalk.i64_in _ (by omega)
      have w2 : IntKind.i64.wrap (y : Int) = y := IntWalk.i64_in _ (by omega)
      have w3 : IntKind.i64.wrap (px : Int) = px := IntWalk.i64_in _ (by omega)
      have w4 : IntKind.i64.wrap (py : Int) = py := IntWalk.i64_in _ (by omega)
      clear hc1 hc2 hxy hpx hpy hq1 hq2 hca hcb hxs hsm hcl hBx hlo hhi
      rcases Nat.lt_trichotomy px py with hpq | hpq | hpq
      · have HCS : Hid (cutsF pl (es.take (i + 1)) = bump xs px py) := by show _ = _; rw [HCS.out, hLO.out, hHI.out]; congr 1 <;> omega
        go_wp2_with fail
        rw [← hwx]
        have hxs2 : N < wx.heap.size := by rw [hwx]; simp; omega
        have hwb : N ≠ wr.heap.size := by omega
        clear hwx
        go_quiet (fail)
        obtain ⟨wy, hwy⟩ : ∃ wy, wy = wx.drewN nq := ⟨_, rfl⟩
        have HAry : Hid (Arr wy w.heap.size N k (bump xs px px)) := by rw [hwy, bump_nil]; exact HArx.out
        have HBy : Hid (Below w.heap.size w wy) := by rw [hwy]; exact below_drewN HBx.out _
        have HEy : Hid (wy.cell? ⟨wr.heap.size, 0, none⟩ = some (.int .i64 x) ∧ wy.cell? ⟨wr.heap.size, 1, none⟩ = some (.int .i64 y)) := by rw [hwy]; exact HE12.out
        rw [← hwy]
        obtain ⟨wb, hwb2⟩ : ∃ wb, wb = wr.heap.size := ⟨_, rfl⟩
        rw [← hwb2] at HEy hwb ⊢
        clear hwy fa fb e1 e2 hwb2 d1 d2
        go_wp2_with fail
        go_loopw [8] (CutJ w N k wb px py x y xs) (fun q _ => py - (intOf q).toNat)
        case atStart => exact ⟨px, rfl, Nat.le_refl _, by omega, HAry, HBy, HEy⟩
        case round =>
          obtain ⟨p, rfl, hp1, hp2, HAp, HBp, HEp⟩ := hrel
          obtain ⟨e1, e2⟩ := HEp.out
          have fa := (HBp.out.cell (p := ⟨ba, oa + x, none⟩) hba).trans HCA.out
          have fb := (HBp.out.cell (p := ⟨ba, oa + y, none⟩) hba).trans HCB.out
          by_cases hlt2 : p < py
          · have hpk : p < xs.length := by have := HCL.out; have := HM.out; omega
            have hpk2 : p < (bump xs px p).length := by rw [bump_len]; exact hpk
            have g1 := HAp.out.at p hpk2
            have g2 := HAp.out.free p
            have hb := bump_get (lo := px) (p := p) hpk
            rw [hb, if_neg (by omega), Int.add_zero] at g1
            obtain ⟨q, hq⟩ : ∃ q, q = xs[p] := ⟨_, rfl⟩
            have hqs := HSM.out _ (List.getElem_mem hpk)
            have HS : Hid (∀ nn : Nat, Arr ((wr.drewN nn).setCell ⟨N, p, none⟩ (.int .i64 (q + 1))) w.heap.size N k (bump xs px (p + 1)) ∧ Below w.heap.size w ((wr.drewN nn).setCell ⟨N, p, none⟩ (.int .i64 (q + 1))) ∧
                ((wr.drewN nn).setCell ⟨N, p, none⟩ (.int .i64 (q + 1))).cell? ⟨wb, 0, none⟩ = some (.int .i64 x) ∧ ((wr.drewN nn).setCell ⟨N, p, none⟩ (.int .i64 (q + 1))).cell? ⟨wb, 1, none⟩ = some (.int .i64 y)) := by
              intro nn
              have ha : Arr (wr.drewN nn) w.heap.size N k (bump xs px p) := HAp.out
              have hset := ha.set p (q + 1)
              refine ⟨?_, (below_drewN HBp.out nn).trans hset.2, ?_, ?_⟩
              · have := hset.1
                rw [hq, bump_succ hp1 hpk] at this
                rw [hq]; exact this
              · rw [set_other hwb]; exact e1
              · rw [set_other hwb]; exact e2
            rw [← hq] at g1 hqs
            have hpk3 : p < k := by have := HCL.out; omega
            have hlt3 : decide ((p : Int) < py) = true := decide_eq_true (by omega)
            have hqs2 : 0 ≤ q ∧ q ≤ 100 := by omega
            clear hb hq hqs
            go_wp2_with fail
            go_quiet (fail)
            clear fa fb e1 e2
            go_wp2_with fail
            go_roundw
            case rel => exact ⟨p + 1, by go_num, by omega, by omega, (HS.out _).1, (HS.out _).2.1, (HS.out _).2.2⟩
            case measure => simp [intOf]; omega
          · have hlt3 : decide ((p : Int) < py) = false := decide_eq_false (by omega)
            have HF : Hid (Arr wr w.heap.size N k (cutsF pl (es.take (i + 1)))) := by
              show Arr _ _ _ _ (cutsF pl (es.take (i + 1)))
              rw [HCS.out]
              have := HAp.out
              rw [show p = py by omega] at this
              exact this
            go_wp2_with fail
            go_quiet (fail)
            clear fa fb e1 e2
            go_wp2_with fail
            go_roundw
            case rel => exact ⟨i + 1, by go_num, by omega, HF.out, below_drewN HBp.out _⟩
            case measure => simp [intOf]; omega
      · subst hpq
        have HCS : Hid (cutsF pl (es.take (i + 1)) = bump xs px px) := by show _ = _; rw [HCS.out, hLO.out, hHI.out]; congr 1 <;> omega
        go_wp2_with fail
        rw [← hwx]
        have hxs2 : N < wx.heap.size := by rw [hwx]; simp; omega
        have hwb : N ≠ wr.heap.size := by omega
        clear hwx
        go_quiet (fail)
        obtain ⟨wy, hwy⟩ : ∃ wy, wy = wx.drewN nq := ⟨_, rfl⟩
        have HAry : Hid (Arr wy w.heap.size N k (bump xs px px)) := by rw [hwy, bump_nil]; exact HArx.out
        have HBy : Hid (Below w.heap.size w wy) := by rw [hwy]; exact below_drewN HBx.out _
        have HEy : Hid (wy.cell? ⟨wr.heap.size, 0, none⟩ = some (.int .i64 x) ∧ wy.cell? ⟨wr.heap.size, 1, none⟩ = some (.int .i64 y)) := by rw [hwy]; exact HE12.out
        rw [← hwy]
        obtain ⟨wb, hwb2⟩ : ∃ wb, wb = wr.heap.size := ⟨_, rfl⟩
        rw [← hwb2] at HEy hwb ⊢
        clear hwy fa fb e1 e2 hwb2 d1 d2
        go_wp2_with fail
        go_loopw [8] (CutJ w N k wb px px x y xs) (fun q _ => px - (intOf q).toNat)
        case atStart => exact ⟨px, rfl, Nat.le_refl _, by omega, HAry, HBy, HEy⟩
        case round =>
          obtain ⟨p, rfl, hp1, hp2, HAp, HBp, HEp⟩ := hrel
          obtain ⟨e1, e2⟩ := HEp.out
          have fa := (HBp.out.cell (p := ⟨ba, oa + x, none⟩) hba).trans HCA.out
          have fb := (HBp.out.cell (p := ⟨ba, oa + y, none⟩) hba).trans HCB.out
          by_cases hlt2 : p < px
          · exfalso; omega
          · have hlt3 : decide ((p : Int) < px) = false := decide_eq_false (by omega)
            have HF : Hid (Arr wr w.heap.size N k (cutsF pl (es.take (i + 1)))) := by
              show Arr _ _ _ _ (cutsF pl (es.take (i + 1)))
              rw [HCS.out]
              have := HAp.out
              rw [show p = px by omega] at this
              exact this
            go_wp2_with fail
            go_quiet (fail)
            clear fa fb e1 e2
            go_wp2_with fail
            go_roundw
            case rel => exact ⟨i + 1, by go_num, by omega, HF.out, below_drewN HBp.out _⟩
            case measure => simp [intOf]; omega
      · have HCS : Hid (cutsF pl (es.take (i + 1)) = bump xs py px) := by show _ = _; rw [HCS.out, hLO.out, hHI.out]; congr 1 <;> omega
        go_wp2_with fail
        rw [← hwx]
        have hxs2 : N < wx.heap.size := by rw [hwx]; simp; omega
        have hwb : N ≠ wr.heap.size := by omega
        clear hwx
        go_quiet (fail)
        obtain ⟨wy, hwy⟩ : ∃ wy, wy = wx.drewN nq := ⟨_, rfl⟩
        have HAry : Hid (Arr wy w.heap.size N k (bump xs py py)) := by rw [hwy, bump_nil]; exact HArx.out
        have HBy : Hid (Below w.heap.size w wy) := by rw [hwy]; exact below_drewN HBx.out _
        have HEy : Hid (wy.cell? ⟨wr.heap.size, 0, none⟩ = some (.int .i64 x) ∧ wy.cell? ⟨wr.heap.size, 1, none⟩ = some (.int .i64 y)) := by rw [hwy]; exact HE12.out
        rw [← hwy]
        obtain ⟨wb, hwb2⟩ : ∃ wb, wb = wr.heap.size := ⟨_, rfl⟩
        rw [← hwb2] at HEy hwb ⊢
        clear hwy fa fb e1 e2 hwb2 d1 d2
        go_wp2_with fail
        go_loopw [8] (CutJ w N k wb py px x y xs) (fun q _ => px - (intOf q).toNat)
        case atStart => exact ⟨py, rfl, Nat.le_refl _, by omega, HAry, HBy, HEy⟩
        case round =>
          obtain ⟨p, rfl, hp1, hp2, HAp, HBp, HEp⟩ := hrel
          obtain ⟨e1, e2⟩ := HEp.out
          have fa := (HBp.out.cell (p := ⟨ba, oa + x, none⟩) hba).trans HCA.out
          have fb := (HBp.out.cell (p := ⟨ba, oa + y, none⟩) hba).trans HCB.out
          by_cases hlt2 : p < px
          · have hpk : p < xs.length := by have := HCL.out; have := HM.out; omega
            have hpk2 : p < (bump xs py p).length := by rw [bump_len]; exact hpk
            have g1 := HAp.out.at p hpk2
            have g2 := HAp.out.free p
            have hb := bump_get (lo := py) (p := p) hpk
            rw [hb, if_neg (by omega), Int.add_zero] at g1
            obtain ⟨q, hq⟩ : ∃ q, q = xs[p] := ⟨_, rfl⟩
            have hqs := HSM.out _ (List.getElem_mem hpk)
            have HS : Hid (∀ nn : Nat, Arr ((wr.drewN nn).setCell ⟨N, p, none⟩ (.int .i64 (q + 1))) w.heap.size N k (bump xs py (p + 1)) ∧ Below w.heap.size w ((wr.drewN nn).setCell ⟨N, p, none⟩ (.int .i64 (q + 1))) ∧
                ((wr.drewN nn).setCell ⟨N, p, none⟩ (.int .i64 (q + 1))).cell? ⟨wb, 0, none⟩ = some (.int .i64 x) ∧ ((wr.drewN nn).setCell ⟨N, p, none⟩ (.int .i64 (q + 1))).cell? ⟨wb, 1, none⟩ = some (.int .i64 y)) := by
              intro nn
              have ha : Arr (wr.drewN nn) w.heap.size N k (bump xs py p) := HAp.out
              have hset := ha.set p (q + 1)
              refine ⟨?_, (below_drewN HBp.out nn).trans hset.2, ?_, ?_⟩
              · have := hset.1
                rw [hq, bump_succ hp1 hpk] at this
                rw [hq]; exact this
              · rw [set_other hwb]; exact e1
              · rw [set_other hwb]; exact e2
            rw [← hq] at g1 hqs
            have hpk3 : p < k := by have := HCL.out; omega
            have hlt3 : decide ((p : Int) < px) = true := decide_eq_true (by omega)
            have hqs2 : 0 ≤ q ∧ q ≤ 100 := by omega
            clear hb hq hqs
            go_wp2_with fail
            go_quiet (fail)
            clear fa fb e1 e2
            go_wp2_with fail
            go_roundw
            case rel => exact ⟨p + 1, by go_num, by omega, by omega, (HS.out _).1, (HS.out _).2.1, (HS.out _).2.2⟩
            case measure => simp [intOf]; omega
          · have hlt3 : decide ((p : Int) < px) = false := decide_eq_false (by omega)
            have HF : Hid (Arr wr w.heap.size N k (cutsF pl (es.take (i + 1)))) := by
              show Arr _ _ _ _ (cutsF pl (es.take (i + 1)))
              rw [HCS.out]
              have := HAp.out
              rw [show p = px by omega] at this
              exact this
            go_wp2_with fail
            go_quiet (fail)
            clear fa fb e1 e2
            go_wp2_with fail
            go_roundw
            case rel => exact ⟨i + 1, by go_num, by omega, HF.out, below_drewN HBp.out _⟩
            case measure => simp [intOf]; omega
    · have HR : Hid (Arr wr w.heap.size N k (cutsF pl es)) := by
        have := HAr.out
        rw [List.take_of_length_le (by have := HNE.out; omega)] at this
        exact this
      go_wp2_with fail
      go_ret
      exact ⟨N, rfl, HR.out, HBr.out⟩
end Go.Proofs.Ythnhmfmlhlpggaa
