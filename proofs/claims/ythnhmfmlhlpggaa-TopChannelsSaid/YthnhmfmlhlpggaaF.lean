/- What is proved: rows that are written in place, and Repeat. No condition beyond those in each statement. -/
import Derived.Test.YthnhmfmlhlpggaaE
import Derived.Laws.CopyOwn
import Derived.Laws.OwnMore
import Derived.Deep.RegionLaw
namespace Go.Proofs.Ythnhmfmlhlpggaa
open Go.RowKit
set_option maxRecDepth 100000

/-- A row of the call's own, at the head of block g. -/
def Arr (w : World) (base g c : Nat) (xs : List Int) : Prop := Ow w base (.slice (some ⟨g, 0, none⟩) xs.length c) xs
theorem Arr.at {w : World} {base g c : Nat} {xs : List Int} (h : Arr w base g c xs) (i : Nat) (hi : i < xs.length) : w.cell? ⟨g, i, none⟩ = some (.int .i64 xs[i]) := by
  rw [World.ownsRow.cellAt h i (by omega)]; simp [hi]
theorem Arr.free {w : World} {base g c : Nat} {xs : List Int} (h : Arr w base g c xs) (i : Nat) : w.frozen? ⟨g, i, none⟩ = false := World.ownsRow.frozenAt h i
theorem Arr.lt {w : World} {base g c : Nat} {xs : List Int} (h : Arr w base g c xs) : base ≤ g ∧ g < w.heap.size := World.ownsRow.lt h g rfl
theorem Arr.bd {w : World} {base g c : Nat} {xs : List Int} (h : Arr w base g c xs) : xs.length ≤ c ∧ c ≤ 9223372036854775807 := by
  rcases h.2 with ⟨h', _⟩ | ⟨g', cap', cur, h', _, _, hnc, hcm, _⟩
  · cases h'
  · cases h'; exact ⟨hnc, by simpa [maxLen] using hcm⟩
theorem Arr.set {w : World} {base g c : Nat} {xs : List Int} (h : Arr w base g c xs) (i : Nat) (y : Int) :
    Arr (w.setCell ⟨g, i, none⟩ (.int .i64 y)) base g c (xs.set i y) ∧ Below base w (w.setCell ⟨g, i, none⟩ (.int .i64 y)) := by
  have := World.ownsRow.stored h i (.int .i64 y)
  refine ⟨?_, (Below.refl _ _).setCell h.lt.1 _⟩
  unfold Arr Ow
  rw [List.length_set, List.map_set]
  exact this.1
theorem Arr.below {w w' : World} {base g c : Nat} {xs : List Int} (h : Arr w base g c xs) (hb : Below w.heap.size w w') : Arr w' base g c xs := Ow.below h hb
theorem Arr.rd {w : World} {base g c : Nat} {xs : List Int} (h : Arr w base g c xs) : Rd w (some ⟨g, 0, none⟩) xs := fun _ => ⟨g, 0, rfl, h.lt.2, fun i hi => by rw [Nat.zero_add]; exact h.at i hi⟩
theorem Arr.of_heap {w : World} {base g c : Nat} {xs : List Int} (hg : w.heap[g]? = some (.cells (xs.map (Value.int .i64)).toArray 3 (0, 0))) (hb : base ≤ g) (hc : c = xs.length) (hl : xs.length ≤ 1000) : Arr w base g c xs := by
  subst hc
  exact ⟨by simp, .inr ⟨g, xs.length, _, rfl, hb, hg, Nat.le_refl _, by simp [maxLen]; omega, by simp, by rw [List.take_of_length_le (by simp)]⟩⟩

set_option maxHeartbeats 1000000 in
theorem mul_calls (n : Nat) (hn : 1 ≤ n ∧ n ≤ 8) (w : World) : Calls Try.prog 118 #[.int .u64 1, .int .u64 n] w fun e w' => e = .returned (.tuple #[.int .u64 0, .int .u64 n]) ∧ w = w' := by
  have : n = 1 ∨ n = 2 ∨ n = 3 ∨ n = 4 ∨ n = 5 ∨ n = 6 ∨ n = 7 ∨ n = 8 := by omega
  clear hn
  rcases this with rfl | rfl | rfl | rfl | rfl | rfl | rfl | rfl
  all_goals
    go_enter Try.func118, Try.ntmps118
    go_wp2
    go_ret2
    exact ⟨rfl, rfl⟩

theorem size3 : (Try.prog.info? 3).map (·.size) = some 1 := by kernel_rfl
def fillL (n k : Nat) : List Int := List.replicate k (-1) ++ List.replicate (n - k) 0

theorem fill_splice {n k m : Nat} (hm : k + m ≤ n) : splice ((fillL n k).map (Value.int .i64)) k ((List.replicate m (-1)).map (Value.int .i64)) = (fillL n (k + m)).map (Value.int .i64) := by
  unfold splice fillL
  rw [List.map_replicate, List.length_replicate, List.map_append, List.map_append, List.map_replicate, List.map_replicate, List.map_replicate, List.map_replicate]
  rw [List.take_append_of_le_length (by simp), List.take_of_length_le (by simp), List.drop_append, List.drop_of_length_le (by simp), List.length_replicate, List.nil_append, List.drop_replicate, ← List.append_assoc, List.replicate_append_replicate]
  congr 2
  omega
theorem fill_cell {w : World} {N n k : Nat} (h : w.heap[N]? = some (.cells ((fillL n k).map (Value.int .i64)).toArray 3 (0, 0))) {j : Nat} (hj : j < k) : w.cell? ⟨N, j, none⟩ = some (.int .i64 (-1)) := by
  rw [cell_of_row w N j _ 3 (0, 0) h]
  unfold fillL
  rw [List.getElem?_toArray, List.map_append, List.getElem?_append_left (by simpa using hj)]
  simp [hj]

theorem copy_step {w : World} {N n k m : Nat} (hm : m = min k (n - k)) (_hk : 1 ≤ k) (hkn : k < n) (h : w.heap[N]? = some (.cells ((fillL n k).map (Value.int .i64)).toArray 3 (0, 0))) :
    ∃ w', (Builtin.copy_ #[27, 27] 3 #[.slice (some ⟨N, k, none⟩) (n - k) (n - k), .slice (some ⟨N, 0, none⟩) k n]).run Try.prog w = .ok (.int .i64 m) w' ∧
      w'.heap[N]? = some (.cells ((fillL n (k + m)).map (Value.int .i64)).toArray 3 (0, 0)) ∧ Below N w w' := by
  have hsz := size3
  have h1 : ((List.replicate m (-1)).map (Value.int .i64)).length = Nat.min k (n - k) := by rw [List.length_map, List.length_replicate]; exact hm
  have h2 : ∀ (j : Nat) (v : Value), ((List.replicate m (-1)).map (Value.int .i64))[j]? = some v → w.cell? ((⟨N, 0, none⟩ : Addr).add j) = some v := by
    intro j v hj
    obtain ⟨hj1, hj2⟩ := List.getElem?_eq_some_iff.1 hj
    have hjm : j < m := by simpa using hj1
    rw [addr_add, Nat.zero_add, ← hj2]
    have := fill_cell h (j := j) (by omega)
    rw [List.getElem_map, List.getElem_replicate]
    exact this
  have hrun := run_copy_row (P := Try.prog) w 27 27 3 3 N k (n - k) (n - k) ⟨N, 0, none⟩ k n ((fillL n k).map (Value.int .i64)).toArray 3 ((List.replicate m (-1)).map (Value.int .i64)) Try.underlying27 hsz h h1 h2 (by simp [fillL]; omega) (by simp [Value.oneCell'])
  have hg : goInt (((List.replicate m (-1)).map (Value.int .i64)).length) = .int .i64 m := by rw [List.length_map, List.length_replicate]; rfl
  rw [hg] at hrun
  refine ⟨_, hrun, ?_, below_setRow (Below.refl _ _) (Nat.le_refl _) _⟩
  rw [setRow_heap w N _ _ 3 _ h]
  have := fill_splice (n := n) (k := k) (m := m) (by omega)
  unfold splice at this
  rw [← this, List.append_assoc]

set_option maxHeartbeats 2000000 in
theorem repeat_calls (n : Nat) (hn : 1 ≤ n ∧ n ≤ 8) (b : Nat) (w : World) (hb : w.cell? ⟨b, 0, none⟩ = some (.int .i64 (-1))) :
    Calls Try.prog 110 #[.slice (some ⟨b, 0, none⟩) 1 1, .int .i64 n] w fun e w' => ∃ g, e = .returned (.slice (some ⟨g, 0, none⟩) n n) ∧ Arr w' w.heap.size g n (List.replicate n (-1)) ∧ Below w.heap.size w w' := by
  have CM := Lib.hid (mul_calls n hn)
  obtain ⟨i0, hi, hz0, hz1, hz2⟩ := info_parts info3
  obtain ⟨w0, hmk, hown, hgrow⟩ := run_make_full (P := Try.prog) w w.heap.size 27 3 i0 (.int .i64 0) 1 Try.underlying27 hi hz0 hz1 .i64 .i64 n (by rw [hz2]; omega) (by simp [maxLen]; omega) (Nat.le_refl _)
  have hrow : w0.heap[w.heap.size]? = some (.cells ((fillL n 0).map (Value.int .i64)).toArray 3 (0, 0)) := by
    rcases hown.2 with ⟨h', _⟩ | ⟨g', cap', cur, h', _, hg, hnc, hcm, hcs, htk⟩
    · cases h'
    · cases h'
      rw [hg]
      congr 2
      rw [List.take_of_length_le (by rw [Array.length_toList, hcs]; omega)] at htk
      rw [← Array.toList_inj, htk, List.toList_toArray]
      show (madeCells #[.int .i64 0] (n * 1)).toList = _
      rw [toList_madeCells_one]
      simp [fillL]
  have hB0 : Below w.heap.size w w0 := (Below.refl _ _).grown hgrow (Nat.le_refl _) (fun k e => by cases e)
  have hbl := World.block_lt_of_cell? _ _ hb
  have hb0 := (hB0.cell (p := ⟨b, 0, none⟩) hbl).trans hb
  have HROW := Lib.hid hrow
  have HB0 := Lib.hid hB0
  clear hrow hB0 hown hgrow hi hz0 hz1 hz2
  obtain ⟨N, hN⟩ : ∃ N, N = w.heap.size := ⟨_, rfl⟩
  rw [← hN] at hmk hbl HROW HB0 ⊢
  have hNs : N < w0.heap.size := by have := HROW.out; exact (Array.getElem?_eq_some_iff.1 this).1
  clear hN
  go_enter Try.func110, Try.ntmps110
  go_wp2_with fail
  refine (CM.out _).mono ?_
  rintro e w' ⟨rfl, rfl⟩
  have hmin : ((List.replicate 1 (-1)).map (Value.int .i64)).length = Nat.min 1 n := by
    show 1 = min 1 n
    omega
  have hcs : ∀ (j : Nat) (v : Value), ((List.replicate 1 (-1)).map (Value.int .i64))[j]? = some v → w0.cell? ((⟨b, 0, none⟩ : Addr).add j) = some v := by
    intro j v hj
    obtain ⟨hj1, hj2⟩ := List.getElem?_eq_some_iff.1 hj
    have : j = 0 := by simpa using hj1
    subst this
    rw [addr_add, hb0, ← hj2]; rfl
  have hfit : 0 + ((List.replicate 1 (-1)).map (Value.int .i64)).length ≤ ((fillL n 0).map (Value.int .i64)).length := by simp [fillL]; omega
  have HCS := Lib.hid hcs
  have HMIN := Lib.hid hmin
  have HFIT := Lib.hid hfit
  clear hcs hmin hfit hb hb0
  go_wp2_with (with_reducible refine wpList_copy_splice rfl (.tmp 31) (.tmp 32) 27 27 rfl 3 Try.underlying27 size3 _ _ _ _ _ _ rfl rfl N 0 ((fillL n 0).map (Value.int .i64)) 3 HROW.out ((List.replicate 1 (-1)).map (Value.int .i64)) HMIN.out (fun _ => ⟨rfl, _, rfl, HCS.out⟩) HFIT.out (by simp [Value.oneCell']) N w HB0.out (Nat.le_refl _) ?_)
  intro w1 hg1 hb1
  have HG1 : Hid (w1.heap[N]? = some (.cells ((fillL n 1).map (Value.int .i64)).toArray 3 (0, 0))) := by
    have h1 : splice ((fillL n 0).map (Value.int .i64)) 0 [Value.int .i64 (-1)] = (fillL n 1).map (Value.int .i64) := fill_splice (n := n) (k := 0) (m := 1) (by omega)
    have := hg1.out
    rw [h1] at this
    exact this
  have HB1 := Lib.hid hb1
  clear hg1 hb1 HROW HCS HMIN HFIT hmk
  go_wp2_with fail
  go_loopw [8] (fun v wr => ∃ k : Nat, v = .int .i64 k ∧ 1 ≤ k ∧ k ≤ n ∧ Hid (wr.heap[N]? = some (.cells ((fillL n k).map (Value.int .i64)).toArray 3 (0, 0))) ∧ Hid (Below N w wr)) (fun v _ => n - (intOf v).toNat)
  case atStart => exact ⟨1, rfl, Nat.le_refl _, hn.1, HG1, HB1⟩
  case round =>
    obtain ⟨k, rfl, hk1, hk, HG, HB⟩ := hrel
    by_cases hlt : k < n
    · obtain ⟨m, hm⟩ : ∃ m, m = min k (n - k) := ⟨_, rfl⟩
      obtain ⟨w4, hrun, hg4, hb4⟩ := copy_step (w := wr.drew) hm hk1 hlt HG.out
      have hne : ¬ n = k := by omega
      have hm1 : 1 ≤ m ∧ k + m ≤ n := by omega
      have HG4 := Lib.hid hg4
      have HB4 : Hid (Below N w w4) := HB.out.drew.trans hb4
      clear hm hg4 hb4
      go_wp2_with fail
      go_region
      all_goals
        clear hrun
        go_wp2_with fail
        go_roundw
        case rel => exact ⟨k + m, by go_num, by omega, by omega, HG4, HB4⟩
        case measure => simp [intOf]; omega
    · have hkn : k = n := by omega
      have HA : Hid (Arr wr N N n (List.replicate n (-1))) := by
        have h1 := HG.out
        have h2 : fillL n k = List.replicate n (-1) := by rw [hkn]; simp [fillL]
        rw [h2] at h1
        exact Arr.of_heap h1 (Nat.le_refl _) (by simp) (by simp; omega)
      clear hkn
      go_wp2_with fail
      go_ret
      exact ⟨N, rfl, HA.out, HB.out⟩
end Go.Proofs.Ythnhmfmlhlpggaa
