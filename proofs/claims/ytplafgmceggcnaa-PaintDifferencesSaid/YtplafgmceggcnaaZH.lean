/- What is proved: words for rows of bytes and for rows that grow, Rising, and plain facts on what is found. No condition beyond those in each statement. -/
import Derived.Test.YtplafgmceggcnaaZG
namespace Go.Proofs.Ytplafgmceggcnaa
open Go.RowKit

/-- A row of bytes. -/
def RdU (w : World) (A : Option Addr) (bs : List Int) : Prop :=
  bs ≠ [] → ∃ b o, A = some ⟨b, o, none⟩ ∧ b < w.heap.size ∧ ∀ i (hi : i < bs.length), w.cell? ⟨b, o + i, none⟩ = some (.int .u8 bs[i])
theorem RdU.below {w w' : World} {A : Option Addr} {xs : List Int} (h : RdU w A xs) (hb : Below w.heap.size w w') : RdU w' A xs := fun hne => by
  obtain ⟨b, o, e, hlt, hc⟩ := h hne
  exact ⟨b, o, e, Nat.lt_of_lt_of_le hlt hb.size, fun i hi => (hb.cell (p := ⟨b, o + i, none⟩) hlt).trans (hc i hi)⟩
theorem rdU_of_cells {w : World} {x : Addr} {len : Nat} {zs : List Int} (hc : ∀ i, i < zs.length → w.cell? (x.add i) = some (.int .u8 (zs.getD i 0))) : RdU w (some x) (zs.take len) := by
  intro hne
  have hpos : 0 < zs.length := by
    rcases Nat.eq_zero_or_pos zs.length with h | h
    · rw [List.eq_nil_of_length_eq_zero h] at hne; simp at hne
    · exact h
  obtain ⟨b, off, spot⟩ := x
  have h0 := hc 0 hpos
  have hspot : spot = none := by simpa [Addr.add] using World.cell?_spot h0
  subst hspot
  refine ⟨b, off, rfl, ?_, fun i hi => ?_⟩
  · rw [addr_add] at h0
    exact World.block_lt_of_cell? _ _ h0
  · have hi' : i < zs.length := by rw [List.length_take] at hi; omega
    have := hc i hi'
    rw [addr_add, getD_lt _ () hi'] at this
    rw [this, List.getElem_take]
theorem RdU.at {w : World} {A : Option Addr} {xs : List Int} (h : RdU w A xs) (i : Nat) (hi : i < xs.length) :
    ∃ b o, A = some ⟨b, o, none⟩ ∧ b < w.heap.size ∧ w.cell? ⟨b, o + i, none⟩ = some (.int .u8 xs[i]) := by
  obtain ⟨b, o, e, hlt, hc⟩ := h (fun e => by subst e; simp at hi)
  exact ⟨b, o, e, hlt, hc i hi⟩

/-- A row that began without room, and grows. -/
def Grow (w1 : World) (cs : List Int) (q : Value) (wr : World) : Prop :=
  Below w1.heap.size w1 wr ∧ ∃ A n c, q = .slice (some A) n c ∧ n = cs.length ∧ ((cs = [] ∧ c = 0) ∨ Ow wr w1.heap.size q cs)
theorem Grow.new (w1 : World) (A : Addr) : Grow w1 [] (.slice (some A) 0 0) w1 := ⟨Below.refl _ _, A, 0, 0, rfl, rfl, .inl ⟨rfl, rfl⟩⟩
theorem Grow.push {w1 wr : World} {cs : List Int} {q : Value} (x : Int) (h : Grow w1 cs q wr) (hl : cs.length ≤ 1000) :
    ∃ A n c w', (Builtin.append_ #[22, 22] 22 #[q, .slice (some ⟨wr.heap.size, 0, none⟩) 1 1]).run Try.prog (wr.alloc (.cells #[.int .i64 x] 3)) = .ok (.slice (some A) n c) w' ∧ Grow w1 (cs ++ [x]) (.slice (some A) n c) w' := by
  obtain ⟨hB, A, n, c, rfl, hn, h | h⟩ := h
  · obtain ⟨rfl, rfl⟩ := h
    subst hn
    have hA : Below wr.heap.size wr (wr.alloc (.cells #[.int .i64 x] 3)) := (Below.refl _ _).alloc (Nat.le_refl _) _
    obtain ⟨v', w', hr, ho, hb⟩ := app_run (wr.alloc (.cells #[.int .i64 x] 3)) (some A) [] [x] (fun h => absurd rfl h) (fun h => by cases h) (some ⟨wr.heap.size, 0, none⟩) 1 (rd_one wr x _ rfl) (by simp) (by simp)
    have hb2 := hB.trans ((hA.trans (hb.mono (by simp))).mono hB.size)
    rcases ho.2 with ⟨_, h0⟩ | ⟨g, cap, cur, rfl, hg, hrest⟩
    · simp at h0
    · refine ⟨_, _, _, w', hr, hb2, _, _, _, rfl, rfl, .inr ?_⟩
      refine ⟨ho.1, .inr ⟨g, cap, cur, rfl, Nat.le_trans hB.size (Nat.le_trans (by simp) hg), hrest⟩⟩
  · obtain ⟨A', n', c', w', hr, ho, hb⟩ := ow_push x h hB.size hl
    exact ⟨_, _, _, w', hr, hB.trans hb, _, _, _, rfl, ho.len, .inr ho⟩
theorem Grow.parts {w1 wr : World} {cs : List Int} {q : Value} (h : Grow w1 cs q wr) : ∃ A n c, q = .slice (some A) n c ∧ n = cs.length ∧ n ≤ c ∧ c ≤ 9223372036854775807 ∧ Rd wr (some A) cs := by
  obtain ⟨hB, A, n, c, rfl, hn, h | h⟩ := h
  · obtain ⟨rfl, rfl⟩ := h
    exact ⟨A, n, 0, rfl, hn, by simp [hn], by omega, fun h => absurd rfl h⟩
  · obtain ⟨A', n', c', e, g1, g2, g3, g4⟩ := h.sl.parts
    cases e
    exact ⟨A, n, c, rfl, g1, g2, g3, g4⟩

theorem in_true {v lo hi : Int} (h1 : lo ≤ v) (h2 : v ≤ hi) (w : World) : Calls Try.prog 18 #[.int .i64 v, .int .i64 lo, .int .i64 hi] w fun e w' => e = .returned (.bool true) ∧ w' = w := by
  refine (in_calls v lo hi w).mono ?_
  rintro e w' ⟨rfl, rfl⟩
  exact ⟨ret_bool (by simp [inB, h1, h2]), rfl⟩

def RiseI (w : World) (m : Nat) (q : Value) (wr : World) : Prop := ∃ i : Nat, q = .int .i64 i ∧ i ≤ m ∧ Hid (Below w.heap.size w wr)

set_option maxHeartbeats 2000000 in
theorem rising_calls (n : Nat) (hn : n ≤ 8) (A : Option Addr) (m c : Nat) (vs : List Nat) (w : World) (hm : m = vs.length) (hA : Rd w A (vs.map fun v : Nat => (v : Int))) (hl : m ≤ c) (hc : c ≤ 9223372036854775807)
    (hp : vs.Pairwise (· < ·)) (hv : ∀ v ∈ vs, v < n) :
    Calls Try.prog 35 #[.int .i64 n, .slice A m c] w fun e w' => e = .returned (.bool true) ∧ Below w.heap.size w w' := by
  have HM := Lib.hid hm
  have HA := Lib.hid hA
  have HP := Lib.hid hp
  have HV := Lib.hid hv
  have hm8 : (m : Int) ≤ 9223372036854775807 := by omega
  clear hm hA hp hv
  go_enter Try.func35, Try.ntmps35
  go_wp2_with fail
  go_loopw [5] (RiseI w m) (fun q _ => m - (intOf q).toNat)
  case atStart => exact ⟨0, rfl, Nat.zero_le _, Below.refl _ _⟩
  case round =>
    obtain ⟨i, rfl, hi, HB⟩ := hrel
    by_cases hlt : i < m
    · have hil : i < vs.length := by have := HM.out; omega
      obtain ⟨b, o, rfl, hb, hc1⟩ := HA.out.at i (by simpa using hil)
      have d1 := (HB.out.cell (p := ⟨b, o + i, none⟩) hb).trans hc1
      rw [List.getElem_map] at d1
      obtain ⟨x, hx⟩ : ∃ x, x = vs[i] := ⟨_, rfl⟩
      rw [← hx] at d1
      have hxn : x < n := by rw [hx]; exact HV.out _ (List.getElem_mem hil)
      clear hc1
      have CI := Lib.hid (fun (u : World) (k : Nat) => Calls.quiet_of_same (w := u) (n := k) (in_true (v := x) (lo := 0) (hi := (n : Int) - 1) (by omega) (by omega) _))
      have b1 : (0 : Int) ≤ i ∧ (i : Int) < m := by omega
      have wi : IntKind.i64.wrap (i : Int) = i := IntWalk.i64_in _ (by omega)
      have wn : IntKind.i64.wrap ((n : Int) - 1) = (n : Int) - 1 := IntWalk.i64_in _ (by omega)
      rcases Nat.eq_zero_or_pos i with h0 | h0
      · have hgt : decide (0 < i) = false := decide_eq_false (by omega)
        have H0 := Lib.hid h0
        clear hx h0
        go_wp2_with fail
        go_quiet ((go_at_call 18; exact CI.out _ _))
        clear wi wn b1 hgt
        go_wp2_with fail
        go_roundw
        case rel => exact ⟨i + 1, by go_num, by omega, below_drewN HB.out _⟩
        case measure => simp [intOf]; omega
      · obtain ⟨j, rfl⟩ : ∃ j, i = j + 1 := ⟨i - 1, by omega⟩
        have hjl : j < vs.length := by omega
        obtain ⟨b', o', e', _, hc2⟩ := HA.out.at j (by simpa using hjl)
        cases e'
        have d2 := (HB.out.cell (p := ⟨b, o + j, none⟩) hb).trans hc2
        rw [List.getElem_map] at d2
        obtain ⟨y, hy⟩ : ∃ x, x = vs[j] := ⟨_, rfl⟩
        rw [← hy] at d2
        have hyx : y < x := by
          rw [hx, hy]
          exact List.pairwise_iff_getElem.1 HP.out j (j + 1) hjl hil (by omega)
        clear hx hy hc2
        have hle : decide (x ≤ y) = false := decide_eq_false (by omega)
        have wj : IntKind.i64.wrap ((j : Int) + 1) = (j : Int) + 1 := IntWalk.i64_in _ (by omega)
        have wj2 : IntKind.i64.wrap ((j : Int) + 1 - 1) = (j : Int) := by rw [IntWalk.i64_in _ (by omega)]; omega
        have b2 : (0 : Int) ≤ j ∧ (j : Int) < m := by omega
        have b3 : (0 : Int) ≤ (j : Int) + 1 ∧ (j : Int) + 1 < m := by omega
        go_wp2_with fail
        go_quiet ((go_at_call 18; exact CI.out _ _))
        clear wi wn b1 wj wj2 b2 b3
        go_wp2_with fail
        go_roundw
        case rel => exact ⟨j + 1 + 1, by go_num, by omega, below_drewN HB.out _⟩
        case measure => simp [intOf]; omega
    · go_wp2_with fail
      go_ret
      exact ⟨rfl, HB.out⟩

/-! Plain facts. -/
def pairsTo (bs : List Int) (k : Nat) : List Int := (List.range k).map fun j => if j < bs.length then bs.getD j 0 % 2 else 0
theorem pairsTo_succ (bs : List Int) (k : Nat) : pairsTo bs (k + 1) = pairsTo bs k ++ [if k < bs.length then bs.getD k 0 % 2 else 0] := by simp [pairsTo, List.range_succ]
theorem pairsTo_len (bs : List Int) (k : Nat) : (pairsTo bs k).length = k := by simp [pairsTo]
theorem pairsTo_in (bs : List Int) (k : Nat) : inRange 2 (pairsTo bs k) = true := inRange_of fun y hy => by
  obtain ⟨j, _, rfl⟩ := List.mem_map.1 hy
  split <;> omega
def numsTo (bs : List Int) (k : Nat) : List Int := (bs.take k).map fun y => y % 3
theorem numsTo_succ (bs : List Int) (k : Nat) (h : k < bs.length) : numsTo bs (k + 1) = numsTo bs k ++ [bs[k] % 3] := by
  unfold numsTo
  rw [List.take_succ_eq_append_getElem h, List.map_append]; rfl
theorem numsTo_len (bs : List Int) (k : Nat) (h : k ≤ bs.length) : (numsTo bs k).length = k := by unfold numsTo; rw [List.length_map, List.length_take]; omega
theorem numsTo_in (bs : List Int) (k : Nat) : inRange 3 (numsTo bs k) = true := inRange_of fun y hy => by
  obtain ⟨j, _, rfl⟩ := List.mem_map.1 hy
  omega

/-- What a clique that was found is. -/
theorem clique_found {n k : Nat} {cs : List Int} {color : Int} {r : List Int} (h : cliqueF (okP cs n color) n k [] = some r) :
    ∃ vs : List Nat, r = vs.map (fun v : Nat => (v : Int)) ∧ vs.length = k ∧ vs.Pairwise (· < ·) ∧ (∀ v ∈ vs, v < n) ∧ vs.Pairwise fun u v : Nat => colN n cs u v = color := by
  obtain ⟨vs, h1, h2, h3, h4, h5⟩ := cliqueF_some_at h
  exact ⟨vs, by simpa using h1, h2, h3, fun v hv => (h4 v hv).2, (fitsOk_iff.1 h5).2⟩
end Go.Proofs.Ytplafgmceggcnaa
