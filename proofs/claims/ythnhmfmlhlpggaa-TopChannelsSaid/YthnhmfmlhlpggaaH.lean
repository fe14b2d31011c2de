/- What is proved: band, sum. No condition beyond those in each statement. -/
import Derived.Test.YthnhmfmlhlpggaaG
namespace Go.Proofs.Ythnhmfmlhlpggaa
open Go.RowKit
set_option maxRecDepth 100000

/-- Positions from 0 to m - 1. -/
def PosOk (m : Nat) (pl : List Int) : Prop := pl.length = m ∧ ∀ q ∈ pl, 0 ≤ q ∧ q < m
def EdOk (m : Nat) (es : List (Int × Int)) : Prop := ∀ e ∈ es, (0 ≤ e.1 ∧ e.1 < m) ∧ (0 ≤ e.2 ∧ e.2 < m)
theorem PosOk.at {m : Nat} {pl : List Int} (h : PosOk m pl) {v : Int} (hv : 0 ≤ v ∧ v < m) : 0 ≤ pl.getD v.toNat 0 ∧ pl.getD v.toNat 0 < m := by
  have hl : v.toNat < pl.length := by rw [h.1]; omega
  rw [getD_lt _ () hl]
  exact h.2 _ (List.getElem_mem hl)
theorem len_small {m : Nat} {pl : List Int} (h : PosOk m pl) {e : Int × Int} (he : (0 ≤ e.1 ∧ e.1 < m) ∧ (0 ≤ e.2 ∧ e.2 < m)) : 0 ≤ lenF pl e ∧ lenF pl e ≤ m := by
  have h1 := h.at he.1
  have h2 := h.at he.2
  unfold lenF; omega
theorem band_take {pl : List Int} {es : List (Int × Int)} {i : Nat} (hi : i < es.length) : bandF pl (es.take (i + 1)) = max (bandF pl (es.take i)) (lenF pl es[i]) := by
  rw [List.take_succ_eq_append_getElem hi]; unfold bandF; rw [List.foldl_append]; rfl
theorem total_take {pl : List Int} {es : List (Int × Int)} {i : Nat} (hi : i < es.length) : totalF pl (es.take (i + 1)) = totalF pl (es.take i) + lenF pl es[i] := by
  rw [List.take_succ_eq_append_getElem hi]; unfold totalF; rw [List.foldl_append]; rfl
theorem band_small {m : Nat} {pl : List Int} (h : PosOk m pl) {es : List (Int × Int)} (he : EdOk m es) (i : Nat) : 0 ≤ bandF pl (es.take i) ∧ bandF pl (es.take i) ≤ m :=
  ⟨foldl_max_ge.1, foldl_max_le.2 ⟨by omega, fun e h' => (len_small h (he e (List.mem_of_mem_take h'))).2⟩⟩
theorem total_small {m : Nat} {pl : List Int} (h : PosOk m pl) {es : List (Int × Int)} (he : EdOk m es) : ∀ i, i ≤ es.length → 0 ≤ totalF pl (es.take i) ∧ totalF pl (es.take i) ≤ m * i
  | 0, _ => by simp [totalF]
  | i + 1, hi => by
    have h1 := total_small h he i (by omega)
    have h2 := len_small h (he es[i] (List.getElem_mem _))
    rw [total_take (by omega), Int.natCast_add, Int.mul_add]
    omega
def FoldI (w : World) (F : List (Int × Int) → Int) (es : List (Int × Int)) (ne : Nat) (s q : Value) (wr : World) : Prop :=
  ∃ i : Nat, q = .int .i64 i ∧ i ≤ ne ∧ s = .int .i64 (F (es.take i)) ∧ Hid (Below w.heap.size w wr)

set_option maxHeartbeats 2000000 in
theorem band_calls (A : Option Addr) (m c : Nat) (pl : List Int) (B : Option Addr) (ne ce : Nat) (es : List (Int × Int)) (w : World) (hp : PosOk m pl) (hA : Rd w A pl) (hl : m ≤ c) (hc : c ≤ 9223372036854775807) (hm8 : m ≤ 8)
    (hne : ne = es.length) (he : EdOk m es) (hB : RdE w B es) (hle : ne ≤ ce) (hce : ce ≤ 9223372036854775807) :
    Calls Try.prog 53 #[.slice A m c, .slice B ne ce] w fun e w' => e = .returned (.int .i64 (bandF pl es)) ∧ Below w.heap.size w w' := by
  have HP := Lib.hid hp
  have HA := Lib.hid hA
  have HE := Lib.hid he
  have HB := Lib.hid hB
  have HNE := Lib.hid hne
  have hne63 : (ne : Int) ≤ 9223372036854775807 := by omega
  clear hp hA he hB hne
  go_enter Try.func53, Try.ntmps53
  go_wp2_with fail
  go_loopw [5, 10] (FoldI w (bandF pl) es ne) (fun _ q _ => ne - (intOf q).toNat)
  case atStart => exact ⟨0, rfl, Nat.zero_le _, rfl, Below.refl _ _⟩
  case round =>
    obtain ⟨i, rfl, hi, rfl, HBr⟩ := hrel
    by_cases hlt : i < ne
    · have hil : i < es.length := by have := HNE.out; omega
      obtain ⟨b, o, rfl, hb, hc1, hc2⟩ := HB.out.at i hil
      have d1 := (HBr.out.cell (p := ⟨b, o + i * 2, none⟩) hb).trans hc1
      have d2 := (HBr.out.cell (p := ⟨b, o + i * 2 + 1, none⟩) hb).trans hc2
      have hed := HE.out es[i] (List.getElem_mem hil)
      have HT := Lib.hid (band_take (pl := pl) hil)
      have hsm := band_small HP.out HE.out i
      have hls := len_small HP.out hed
      obtain ⟨x, y, hxy⟩ : ∃ x y : Nat, es[i] = ((x : Int), (y : Int)) := ⟨es[i].1.toNat, es[i].2.toNat, by ext <;> (show _ = _; omega)⟩
      rw [hxy] at d1 d2 hed HT hls
      simp only at d1 d2 hed
      obtain ⟨L, hL⟩ : ∃ L, lenF pl ((x : Int), (y : Int)) = L := ⟨_, rfl⟩
      obtain ⟨M, hM⟩ : ∃ M, bandF pl (es.take i) = M := ⟨_, rfl⟩
      rw [hL] at HT hls
      rw [hM] at HT hsm ⊢
      have hBx : Below wr.heap.size wr (wr.alloc (.cells #[.int .i64 x, .int .i64 y] 26)) := (Below.refl _ _).alloc (Nat.le_refl _) _
      have HB2 := Lib.hid (HBr.out.trans (hBx.mono HBr.out.size))
      have CL := Lib.hid (length_calls A m c pl x y (wr.alloc (.cells #[.int .i64 x, .int .i64 y] 26)) HP.out.1.symm (HA.out.below HB2.out) hl hc (by omega) (by omega) (fun p hp => by have := HP.out.2 p hp; omega))
      rw [hL] at CL
      clear hc1 hc2 hxy hL hM hBx
      go_wp2_with fail
      refine CL.out.mono ?_
      rintro e w1 ⟨rfl, hB1⟩
      have HB3 := Lib.hid (HB2.out.trans (hB1.mono HB2.out.size))
      clear hB1 d1 d2
      go_wp2_with fail
      all_goals
        go_roundw
        case rel => exact ⟨i + 1, by go_num, by omega, by rw [HT.out]; first | rfl | (congr 1; omega), HB3.out⟩
        case measure => simp [intOf]; omega
    · have HR : Hid (bandF pl (es.take i) = bandF pl es) := by show _ = _; rw [List.take_of_length_le (by have := HNE.out; omega)]
      go_wp2_with fail
      go_ret
      exact ⟨ret_int HR.out, HBr.out⟩
set_option maxHeartbeats 2000000 in
theorem sum_calls (A : Option Addr) (m c : Nat) (pl : List Int) (B : Option Addr) (ne ce : Nat) (es : List (Int × Int)) (w : World) (hp : PosOk m pl) (hA : Rd w A pl) (hl : m ≤ c) (hc : c ≤ 9223372036854775807) (hm8 : m ≤ 8)
    (hne : ne = es.length) (he : EdOk m es) (hB : RdE w B es) (_hle : ne ≤ ce) (_hce : ce ≤ 9223372036854775807) (hn30 : ne ≤ 100) :
    Calls Try.prog 54 #[.slice A m c, .slice B ne ce] w fun e w' => e = .returned (.int .i64 (totalF pl es)) ∧ Below w.heap.size w w' := by
  have HP := Lib.hid hp
  have HA := Lib.hid hA
  have HE := Lib.hid he
  have HB := Lib.hid hB
  have HNE := Lib.hid hne
  clear hp hA he hB hne
  go_enter Try.func54, Try.ntmps54
  go_wp2_with fail
  go_loopw [5, 10] (FoldI w (totalF pl) es ne) (fun _ q _ => ne - (intOf q).toNat)
  case atStart => exact ⟨0, rfl, Nat.zero_le _, rfl, Below.refl _ _⟩
  case round =>
    obtain ⟨i, rfl, hi, rfl, HBr⟩ := hrel
    by_cases hlt : i < ne
    · have hil : i < es.length := by have := HNE.out; omega
      obtain ⟨b, o, rfl, hb, hc1, hc2⟩ := HB.out.at i hil
      have d1 := (HBr.out.cell (p := ⟨b, o + i * 2, none⟩) hb).trans hc1
      have d2 := (HBr.out.cell (p := ⟨b, o + i * 2 + 1, none⟩) hb).trans hc2
      have hed := HE.out es[i] (List.getElem_mem hil)
      have HT := Lib.hid (total_take (pl := pl) hil)
      have hsm := total_small HP.out HE.out i (by omega)
      have hmi : (m : Int) * i ≤ 8 * 100 := Int.mul_le_mul (by omega) (by omega) (by omega) (by omega)
      have hls := len_small HP.out hed
      obtain ⟨x, y, hxy⟩ : ∃ x y : Nat, es[i] = ((x : Int), (y : Int)) := ⟨es[i].1.toNat, es[i].2.toNat, by ext <;> (show _ = _; omega)⟩
      rw [hxy] at d1 d2 hed HT hls
      simp only at d1 d2 hed
      obtain ⟨L, hL⟩ : ∃ L, lenF pl ((x : Int), (y : Int)) = L := ⟨_, rfl⟩
      obtain ⟨M, hM⟩ : ∃ M, totalF pl (es.take i) = M := ⟨_, rfl⟩
      rw [hL] at HT hls
      rw [hM] at HT hsm ⊢
      have hBx : Below wr.heap.size wr (wr.alloc (.cells #[.int .i64 x, .int .i64 y] 26)) := (Below.refl _ _).alloc (Nat.le_refl _) _
      have HB2 := Lib.hid (HBr.out.trans (hBx.mono HBr.out.size))
      have CL := Lib.hid (length_calls A m c pl x y (wr.alloc (.cells #[.int .i64 x, .int .i64 y] 26)) HP.out.1.symm (HA.out.below HB2.out) hl hc (by omega) (by omega) (fun p hp => by have := HP.out.2 p hp; omega))
      rw [hL] at CL
      have hM2 : 0 ≤ M ∧ M ≤ 800 := by omega
      clear hc1 hc2 hxy hL hM hBx hsm hmi
      go_wp2_with fail
      refine CL.out.mono ?_
      rintro e w1 ⟨rfl, hB1⟩
      have HB3 := Lib.hid (HB2.out.trans (hB1.mono HB2.out.size))
      clear hB1 d1 d2
      go_wp2_with fail
      all_goals
        go_roundw
        case rel => exact ⟨i + 1, by go_num, by omega, by rw [HT.out], HB3.out⟩
        case measure => simp [intOf]; omega
    · have HR : Hid (totalF pl (es.take i) = totalF pl es) := by show _ = _; rw [List.take_of_length_le (by have := HNE.out; omega)]
      go_wp2_with fail
      go_ret
      exact ⟨ret_int HR.out, HBr.out⟩
end Go.Proofs.Ythnhmfmlhlpggaa
