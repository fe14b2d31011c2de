/- What is proved: within, sums, both on maps of at most one vector. No condition beyond those in each statement. -/
import Derived.Test.YthnhmfmlhlpggaaU
import Derived.LoopN
namespace Go.Proofs.Ythnhmfmlhlpggaa
open Go.RowKit
set_option maxRecDepth 100000

/-- All but one block, and new ones, are as they were. -/
def Om (m : Nat) (w w' : World) : Prop := w'.os = w.os ∧ w'.tape = w.tape ∧ w'.output = w.output ∧ w.heap.size ≤ w'.heap.size ∧ ∀ g, g < w.heap.size → g ≠ m → w'.heap[g]? = w.heap[g]?
theorem Om.of {m : Nat} {w w' : World} (h : Below w.heap.size w w') : Om m w w' := ⟨h.os, h.tape, h.output, h.size, fun g hg _ => h.block g hg⟩
theorem Om.trans {m : Nat} {a b c : World} (h : Om m a b) (k : Om m b c) : Om m a c :=
  ⟨k.1.trans h.1, k.2.1.trans h.2.1, k.2.2.1.trans h.2.2.1, Nat.le_trans h.2.2.2.1 k.2.2.2.1, fun g hg hm => (k.2.2.2.2 g (Nat.lt_of_lt_of_le hg h.2.2.2.1) hm).trans (h.2.2.2.2 g hg hm)⟩
theorem Om.new {m : Nat} {w0 a b : World} (h : Below w0.heap.size w0 a) (k : Om m a b) (hm : w0.heap.size ≤ m) : Below w0.heap.size w0 b :=
  ⟨k.1.trans h.os, k.2.1.trans h.tape, k.2.2.1.trans h.output, Nat.le_trans h.size k.2.2.2.1, fun g hg => (k.2.2.2.2 g (Nat.lt_of_lt_of_le hg h.size) (by omega)).trans (h.block g hg)⟩
set_option maxHeartbeats 4000000 in
theorem within_calls {w : World} {m : Nat} (k : Nat) (hk : k = 0 ∨ k = 2) (h : Mp w m [k]) : Calls Try.prog 77 #[.map (some m), kv 2] w fun e w' => e = .returned (.map (some m)) ∧ Mp w' m [k] ∧ Below w.heap.size w w' := by
  obtain ⟨Q, hQ⟩ : ∃ Q, Q = w.heap.size := ⟨_, rfl⟩
  obtain ⟨W0, hW0⟩ : ∃ W0, W0 = w.alloc (.cells #[.int .i64 0, .int .i64 1, .int .i64 0] 114) := ⟨_, rfl⟩
  have hB0 : Below w.heap.size w W0 := by rw [hW0]; exact (Below.refl _ _).alloc (Nat.le_refl _) _
  have q0 : W0.cell? ⟨Q, 0, none⟩ = some (.int .i64 0) ∧ W0.cell? ⟨Q, 1, none⟩ = some (.int .i64 1) ∧ W0.cell? ⟨Q, 2, none⟩ = some (.int .i64 0) := by
    rw [hW0, hQ]; exact ⟨World.cell?_alloc_at _ _ _ _ rfl, World.cell?_alloc_at _ _ _ _ rfl, World.cell?_alloc_at _ _ _ _ rfl⟩
  have hQl : Q < W0.heap.size := by rw [hW0, hQ]; simp
  obtain ⟨W1, hrun, hR, hB1, hs1⟩ := rg_start (h.below hB0)
  obtain ⟨r, hr⟩ : ∃ r, r = W0.heap.size := ⟨_, rfl⟩
  rw [← hr] at hrun hR hs1
  obtain ⟨W2, hnx, hR2, hg2, hs2, hen⟩ := rg_one hR 0
  have hQr : Q ≠ r := by omega
  have q1 : W2.cell? ⟨Q, 0, none⟩ = some (.int .i64 0) ∧ W2.cell? ⟨Q, 1, none⟩ = some (.int .i64 1) ∧ W2.cell? ⟨Q, 2, none⟩ = some (.int .i64 0) := by
    have e : W2.heap[Q]? = W0.heap[Q]? := (hg2.block Q (Nat.lt_of_lt_of_le hQl hB1.size) (by simpa using hQr)).trans (hB1.block Q hQl)
    exact ⟨(World.cell?_of_block (a := ⟨Q, 0, none⟩) e).trans q0.1, (World.cell?_of_block (a := ⟨Q, 1, none⟩) e).trans q0.2.1, (World.cell?_of_block (a := ⟨Q, 2, none⟩) e).trans q0.2.2⟩
  obtain ⟨c0, c1, c2⟩ := q1
  have HRUN := Lib.hid hrun
  have HNX := Lib.hid hnx
  have HB : Hid (Below w.heap.size w W2) := (hB0.trans (hB1.mono hB0.size)).trans ⟨hg2.os, hg2.tape, hg2.output, hg2.size, fun g hg => hg2.block g (by have := hB0.size; have := hB1.size; omega) (by have := hB0.size; simp; omega)⟩
  have HR2 := Lib.hid hR2
  have HW0 := Lib.hid hW0
  have hQW : Q < W2.heap.size := by rw [hs2]; have := hB1.size; omega
  clear hrun hnx hB0 hB1 hg2 hR hR2 q0 hs1 hs2 hQr hW0 h
  have HQ := Lib.hid hQ
  clear hQ hr
  rcases hk with rfl | rfl
  · have d0 : (W2.alloc (.cells #[.int .i64 0, .int .i64 0, .int .i64 0] 114)).cell? ⟨Q, 0, none⟩ = some (.int .i64 0) := (World.cell?_alloc_past _ _ _ (by omega)).trans c0
    have d1 : (W2.alloc (.cells #[.int .i64 0, .int .i64 0, .int .i64 0] 114)).cell? ⟨Q, 1, none⟩ = some (.int .i64 1) := (World.cell?_alloc_past _ _ _ (by omega)).trans c1
    have d2 : (W2.alloc (.cells #[.int .i64 0, .int .i64 0, .int .i64 0] 114)).cell? ⟨Q, 2, none⟩ = some (.int .i64 0) := (World.cell?_alloc_past _ _ _ (by omega)).trans c2
    have hB3 : Below W2.heap.size W2 (W2.alloc (.cells #[.int .i64 0, .int .i64 0, .int .i64 0] 114)) := (Below.refl _ _).alloc (Nat.le_refl _) _
    have HOV := Lib.hid (rg_over (HR2.out.below hB3) 0)
    have HF := Lib.hid (And.intro (HR2.out.below hB3).mp (HB.out.trans (hB3.mono HB.out.size)))
    clear hB3 hQW c0 c1 c2
    unfold kv at *
    go_enter Try.func77, Try.ntmps77
    go_wp2_with (at_range; (have hW := HW0.out; have hQ := HQ.out; rw [← hW, ← hQ]; clear hW hQ); refine wpList_rng rfl _ 116 rfl _ rfl HRUN.out ?_)
    refine wp_loop_rounds 2 ?_
    rw [rounds_succ]
    go_wp2_with (at_next; refine wpList_nxt rfl _ rfl _ rfl HNX.out ?_)
    rw [rounds_succ]
    go_wp2_with (at_next; refine wpList_nxt rfl _ rfl _ rfl HOV.out ?_)
    go_ret
    exact ⟨rfl, HF.out⟩
  · have d0 : (W2.alloc (.cells #[.int .i64 0, .int .i64 1, .int .i64 0] 114)).cell? ⟨Q, 0, none⟩ = some (.int .i64 0) := (World.cell?_alloc_past _ _ _ (by omega)).trans c0
    have d1 : (W2.alloc (.cells #[.int .i64 0, .int .i64 1, .int .i64 0] 114)).cell? ⟨Q, 1, none⟩ = some (.int .i64 1) := (World.cell?_alloc_past _ _ _ (by omega)).trans c1
    have d2 : (W2.alloc (.cells #[.int .i64 0, .int .i64 1, .int .i64 0] 114)).cell? ⟨Q, 2, none⟩ = some (.int .i64 0) := (World.cell?_alloc_past _ _ _ (by omega)).trans c2
    have hB3 : Below W2.heap.size W2 (W2.alloc (.cells #[.int .i64 0, .int .i64 1, .int .i64 0] 114)) := (Below.refl _ _).alloc (Nat.le_refl _) _
    have HOV := Lib.hid (rg_over (HR2.out.below hB3) 0)
    have HF := Lib.hid (And.intro (HR2.out.below hB3).mp (HB.out.trans (hB3.mono HB.out.size)))
    clear hB3 hQW c0 c1 c2
    unfold kv at *
    go_enter Try.func77, Try.ntmps77
    go_wp2_with (at_range; (have hW := HW0.out; have hQ := HQ.out; rw [← hW, ← hQ]; clear hW hQ); refine wpList_rng rfl _ 116 rfl _ rfl HRUN.out ?_)
    refine wp_loop_rounds 2 ?_
    rw [rounds_succ]
    go_wp2_with (at_next; refine wpList_nxt rfl _ rfl _ rfl HNX.out ?_)
    rw [rounds_succ]
    go_wp2_with (at_next; refine wpList_nxt rfl _ rfl _ rfl HOV.out ?_)
    go_ret
    exact ⟨rfl, HF.out⟩
theorem rg_del {w : World} {m r k : Nat} (h : Rg w m r [k] []) (hk : k < 3) (ty : TypeId) : ∃ w', (Builtin.delete_ #[116, 114] ty #[.map (some m), kv k]).run Try.prog w = .ok (.tuple #[]) w' ∧ Rg w' m r [] [] ∧ w.grownBy w' (some m) ∧ w'.heap.size = w.heap.size := by
  have hne := h.lt.2.2
  obtain ⟨es, clock, since, seen, c0, h1, h2, h3, h4, h5, h6⟩ := h
  obtain ⟨l⟩ := es
  obtain ⟨e, rfl⟩ : ∃ e, l = [e] := by
    have := congrArg List.length h2.el
    simp at this
    exact List.length_eq_one_iff.1 this
  have hkv : e.key = kv k ∧ e.val = .bool true := by
    have := h2.el
    simp at this
    exact this
  obtain ⟨lk, hkey⟩ := keyed hk
  rcases law114.find w hkey [e] h2.keys with ⟨_, q⟩ | ⟨q, e0, q1, q2, q3⟩
  · exact absurd hkv.1 (q e (by simp))
  · obtain rfl : q = 0 := by
      have := (List.getElem?_eq_some_iff.1 q2).1
      simpa using this
    obtain rfl : e0 = e := by simpa using q2.symm
    refine ⟨Go.ChangeMaps.setBlock w m (.map #[] clock), ?_, ⟨#[], clock, since, seen, c0, Go.ChangeMaps.heap_setBlock_same h1 _, ⟨by simp, rfl, by simp⟩, (Go.ChangeMaps.heap_setBlock_other h1 _ hne).trans h3, h4, by simp, .inr ⟨rfl, by simp⟩⟩, setBlock_grown h1 _, by simp [Go.ChangeMaps.setBlock]⟩
    simp [Builtin.delete_, run_underlying Try.underlying116, MapKept.run_getObj_map h1, law114.check w _ hkey, q1, MapKept.run_setObj_map _ h1, Result.andThen, Go.ChangeMaps.setBlock]
set_option maxHeartbeats 4000000 in
theorem within_nil {w : World} {m : Nat} (h : Mp w m []) : Calls Try.prog 77 #[.map (some m), kv 2] w fun e w' => e = .returned (.map (some m)) ∧ Mp w' m [] ∧ Below w.heap.size w w' := by
  obtain ⟨Q, hQ⟩ : ∃ Q, Q = w.heap.size := ⟨_, rfl⟩
  obtain ⟨W0, hW0⟩ : ∃ W0, W0 = w.alloc (.cells #[.int .i64 0, .int .i64 1, .int .i64 0] 114) := ⟨_, rfl⟩
  have hB0 : Below w.heap.size w W0 := by rw [hW0]; exact (Below.refl _ _).alloc (Nat.le_refl _) _
  have q0 : W0.cell? ⟨Q, 0, none⟩ = some (.int .i64 0) ∧ W0.cell? ⟨Q, 1, none⟩ = some (.int .i64 1) ∧ W0.cell? ⟨Q, 2, none⟩ = some (.int .i64 0) := by
    rw [hW0, hQ]; exact ⟨World.cell?_alloc_at _ _ _ _ rfl, World.cell?_alloc_at _ _ _ _ rfl, World.cell?_alloc_at _ _ _ _ rfl⟩
  have hQl : Q < W0.heap.size := by rw [hW0, hQ]; simp
  obtain ⟨W1, hrun, hR, hB1, hs1⟩ := rg_start (h.below hB0)
  obtain ⟨r, hr⟩ : ∃ r, r = W0.heap.size := ⟨_, rfl⟩
  rw [← hr] at hrun hR hs1
  have HOV := Lib.hid (rg_over hR 0)
  have HRUN := Lib.hid hrun
  have HF := Lib.hid (And.intro hR.mp (hB0.trans (hB1.mono hB0.size)))
  have HW0 := Lib.hid hW0
  have HQ := Lib.hid hQ
  clear hrun hB0 hB1 hR q0 hs1 hW0 h hQ hr
  unfold kv at *
  go_enter Try.func77, Try.ntmps77
  go_wp2_with (at_range; (have hW := HW0.out; have hQ := HQ.out; rw [← hW, ← hQ]; clear hW hQ); refine wpList_rng rfl _ 116 rfl _ rfl HRUN.out ?_)
  refine wp_loop_rounds 1 ?_
  rw [rounds_succ]
  go_wp2_with (at_next; refine wpList_nxt rfl _ rfl _ rfl HOV.out ?_)
  go_ret
  exact ⟨rfl, HF.out⟩
set_option maxHeartbeats 4000000 in
theorem within_one {w : World} {m : Nat} (h : Mp w m [1]) : Calls Try.prog 77 #[.map (some m), kv 2] w fun e w' => e = .returned (.map (some m)) ∧ Mp w' m [] ∧ Om m w w' := by
  obtain ⟨Q, hQ⟩ : ∃ Q, Q = w.heap.size := ⟨_, rfl⟩
  obtain ⟨W0, hW0⟩ : ∃ W0, W0 = w.alloc (.cells #[.int .i64 0, .int .i64 1, .int .i64 0] 114) := ⟨_, rfl⟩
  have hB0 : Below w.heap.size w W0 := by rw [hW0]; exact (Below.refl _ _).alloc (Nat.le_refl _) _
  have q0 : W0.cell? ⟨Q, 0, none⟩ = some (.int .i64 0) ∧ W0.cell? ⟨Q, 1, none⟩ = some (.int .i64 1) ∧ W0.cell? ⟨Q, 2, none⟩ = some (.int .i64 0) := by
    rw [hW0, hQ]; exact ⟨World.cell?_alloc_at _ _ _ _ rfl, World.cell?_alloc_at _ _ _ _ rfl, World.cell?_alloc_at _ _ _ _ rfl⟩
  have hQl : Q < W0.heap.size := by rw [hW0, hQ]; simp
  obtain ⟨W1, hrun, hR, hB1, hs1⟩ := rg_start (h.below hB0)
  obtain ⟨r, hr⟩ : ∃ r, r = W0.heap.size := ⟨_, rfl⟩
  rw [← hr] at hrun hR hs1
  obtain ⟨W2, hnx, hR2, hg2, hs2, hen⟩ := rg_one hR 0
  have hQr : Q ≠ r := by omega
  have q1 : W2.cell? ⟨Q, 0, none⟩ = some (.int .i64 0) ∧ W2.cell? ⟨Q, 1, none⟩ = some (.int .i64 1) ∧ W2.cell? ⟨Q, 2, none⟩ = some (.int .i64 0) := by
    have e : W2.heap[Q]? = W0.heap[Q]? := (hg2.block Q (Nat.lt_of_lt_of_le hQl hB1.size) (by simpa using hQr)).trans (hB1.block Q hQl)
    exact ⟨(World.cell?_of_block (a := ⟨Q, 0, none⟩) e).trans q0.1, (World.cell?_of_block (a := ⟨Q, 1, none⟩) e).trans q0.2.1, (World.cell?_of_block (a := ⟨Q, 2, none⟩) e).trans q0.2.2⟩
  obtain ⟨c0, c1, c2⟩ := q1
  have HRUN := Lib.hid hrun
  have HNX := Lib.hid hnx
  have HB : Hid (Below w.heap.size w W2) := (hB0.trans (hB1.mono hB0.size)).trans ⟨hg2.os, hg2.tape, hg2.output, hg2.size, fun g hg => hg2.block g (by have := hB0.size; have := hB1.size; omega) (by have := hB0.size; simp; omega)⟩
  have HR2 := Lib.hid hR2
  have HW0 := Lib.hid hW0
  have hQW : Q < W2.heap.size := by rw [hs2]; have := hB1.size; omega
  have HQ := Lib.hid hQ
  have d0 : (W2.alloc (.cells #[.int .i64 1, .int .i64 0, .int .i64 0] 114)).cell? ⟨Q, 0, none⟩ = some (.int .i64 0) := (World.cell?_alloc_past _ _ _ (by omega)).trans c0
  have hB3 : Below W2.heap.size W2 (W2.alloc (.cells #[.int .i64 1, .int .i64 0, .int .i64 0] 114)) := (Below.refl _ _).alloc (Nat.le_refl _) _
  obtain ⟨W4, hdel, hR4, hg4, _⟩ := rg_del (HR2.out.below hB3) (by omega) 0
  have HOV := Lib.hid (rg_over hR4 0)
  have HF : Hid (Mp W4 m [] ∧ Om m w W4) := ⟨hR4.mp, (Om.of (HB.out.trans (hB3.mono HB.out.size))).trans ⟨hg4.os, hg4.tape, hg4.output, hg4.size, fun g hg hm => hg4.block g hg (by intro e; cases e; exact hm rfl)⟩⟩
  clear hrun hnx hB0 hB1 hg2 hR hR2 q0 hs1 hs2 hQr hW0 h hQ hr hB3 hQW c0 c1 c2 hR4 hg4
  unfold kv at *
  go_enter Try.func77, Try.ntmps77
  go_wp2_with (at_range; (have hW := HW0.out; have hQ := HQ.out; rw [← hW, ← hQ]; clear hW hQ); refine wpList_rng rfl _ 116 rfl _ rfl HRUN.out ?_)
  refine wp_loop_rounds 2 ?_
  rw [rounds_succ]
  go_wp2_with (at_next; refine wpList_nxt rfl _ rfl _ rfl HNX.out ?_)
  rw [rounds_succ]
  go_wp2_with (at_next; refine wpList_nxt rfl _ rfl _ rfl HOV.out ?_)
  go_ret
  exact ⟨rfl, HF.out⟩
theorem mkMap116 (w : World) : (Instr.makeMap 116 none).run Try.prog w = .ok (.map (some w.heap.size)) (w.alloc (.map #[] 0)) := by
  simp [Instr.makeMap, go_sem]
set_option maxHeartbeats 4000000 in
/-- sums of one vector and none. -/
theorem sums_calls {w : World} {a b : Nat} (ha : Mp w a [0]) (hb : Mp w b []) : Calls Try.prog 79 #[.map (some a), .map (some b)] w fun e w' => ∃ m, e = .returned (.map (some m)) ∧ Mp w' m [] ∧ w.heap.size ≤ m ∧ Below w.heap.size w w' := by
  obtain ⟨N, hN⟩ : ∃ N, N = w.heap.size := ⟨_, rfl⟩
  obtain ⟨W0, hW0⟩ : ∃ W0, W0 = w.alloc (.map #[] 0) := ⟨_, rfl⟩
  have hB0 : Below w.heap.size w W0 := by rw [hW0]; exact (Below.refl _ _).alloc (Nat.le_refl _) _
  have hM : Mp W0 N [] := by rw [hW0, hN]; exact mp_new w
  obtain ⟨W1, hrun, hR, hB1, hs1⟩ := rg_start (ha.below hB0)
  obtain ⟨r, hr⟩ : ∃ r, r = W0.heap.size := ⟨_, rfl⟩
  rw [← hr] at hrun hR hs1
  obtain ⟨W2, hnx, hR2, hg2, hs2, hen⟩ := rg_one hR 0
  have hB2 : Below w.heap.size w W1 := hB0.trans (hB1.mono hB0.size)
  have hrw : w.heap.size ≤ r := by rw [hr]; exact hB0.size
  have hB3 : Below w.heap.size w W2 := hB2.trans ⟨hg2.os, hg2.tape, hg2.output, hg2.size, fun g hg => hg2.block g (by have := hB2.size; omega) (by simp; omega)⟩
  obtain ⟨W3, hW3⟩ : ∃ W3, W3 = W2.alloc (.cells #[.int .i64 0, .int .i64 0, .int .i64 0] 114) := ⟨_, rfl⟩
  have hB4 : Below W2.heap.size W2 W3 := by rw [hW3]; exact (Below.refl _ _).alloc (Nat.le_refl _) _
  obtain ⟨W4, hrun4, hR4, hB5, hs4⟩ := rg_start (hb.below (hB3.trans (hB4.mono hB3.size)))
  obtain ⟨r2, hr2⟩ : ∃ r2, r2 = W3.heap.size := ⟨_, rfl⟩
  rw [← hr2] at hrun4 hR4
  have HRUN := Lib.hid hrun
  have HNX := Lib.hid hnx
  have HRUN4 := Lib.hid hrun4
  have HOV4 := Lib.hid (rg_over hR4 0)
  have hB6 : Below W2.heap.size W2 W4 := hB4.trans (hB5.mono hB4.size)
  have HOV := Lib.hid (rg_over (hR2.below hB6) 0)
  have hNW : W2.heap[N]? = W0.heap[N]? := by
    have hl : N < W0.heap.size := by rw [hW0, hN]; simp
    exact (hg2.block N (Nat.lt_of_lt_of_le hl hB1.size) (by simp; omega)).trans (hB1.block N hl)
  have HF : Hid (Mp W4 N [] ∧ w.heap.size ≤ N ∧ Below w.heap.size w W4) := ⟨(hM.same hNW).below hB6, by omega, hB3.trans (hB6.mono hB3.size)⟩
  have HW0 := Lib.hid hW0
  have HW3 := Lib.hid hW3
  have HN := Lib.hid hN
  clear hrun hnx hrun4 hB0 hB1 hg2 hR hR2 hs1 hs2 hW0 hW3 ha hb hN hr hr2 hB2 hB3 hB4 hB5 hB6 hR4 hs4 hNW hM hrw
  have mm := mkMap116 w
  unfold kv at *
  go_enter Try.func79, Try.ntmps79
  go_wp2_with (at_range; (have hW := HW0.out; have hQ := HN.out; rw [← hW, ← hQ]; clear hW hQ); refine wpList_rng rfl _ 116 rfl _ rfl HRUN.out ?_)
  refine wp_loop_rounds 2 ?_
  rw [rounds_succ]
  go_wp2_with (first
    | (at_next; refine wpList_nxt rfl _ rfl _ rfl HNX.out ?_)
    | (at_range; (have hW := HW3.out; rw [← hW]; clear hW); refine wpList_rng rfl _ 116 rfl _ rfl HRUN4.out ?_))
  refine wp_loop_rounds 1 ?_
  rw [rounds_succ]
  go_wp2_with (at_next; refine wpList_nxt rfl _ rfl _ rfl HOV4.out ?_)
  rw [rounds_succ]
  go_wp2_with (at_next; refine wpList_nxt rfl _ rfl _ rfl HOV.out ?_)
  go_ret
  exact ⟨N, rfl, HF.out⟩
set_option maxHeartbeats 4000000 in
theorem both_one {w : World} {a b : Nat} (ha : Mp w a [0]) (hb : Mp w b []) : Calls Try.prog 80 #[.map (some a), .map (some b)] w fun e w' => ∃ m, e = .returned (.map (some m)) ∧ Mp w' m [0] ∧ w.heap.size ≤ m ∧ Below w.heap.size w w' := by
  obtain ⟨N, hN⟩ : ∃ N, N = w.heap.size := ⟨_, rfl⟩
  obtain ⟨W0, hW0⟩ : ∃ W0, W0 = w.alloc (.map #[] 0) := ⟨_, rfl⟩
  have hM : Mp W0 N [] := by rw [hW0, hN]; exact mp_new w
  obtain ⟨S, hS⟩ : ∃ S, S = W0.heap.size := ⟨_, rfl⟩
  obtain ⟨W1, hW1⟩ : ∃ W1, W1 = W0.alloc (.cells #[.map (some a), .map (some b)] 116) := ⟨_, rfl⟩
  have hs0 : W0.heap.size = N + 1 := by rw [hW0, hN]; simp
  have hs1 : W1.heap.size = N + 2 := by rw [hW1]; simp [hs0]
  have hB1 : Below w.heap.size w W1 := by rw [hW1, hW0]; exact ((Below.refl _ _).alloc (Nat.le_refl _) _).alloc (by simp) _
  have c0 : W1.cell? ⟨S, 0, none⟩ = some (.map (some a)) := by rw [hW1, hS]; exact World.cell?_alloc_at _ _ _ _ rfl
  have c1 : W1.cell? ⟨S, 1, none⟩ = some (.map (some b)) := by rw [hW1, hS]; exact World.cell?_alloc_at _ _ _ _ rfl
  have hM1 : Mp W1 N [] := hM.below (by rw [hW1]; exact (Below.refl _ _).alloc (Nat.le_refl _) _)
  obtain ⟨W2, hrun2, hR2, hB2, hs2⟩ := rg_start (ha.below hB1)
  obtain ⟨r, hr⟩ : ∃ r, r = W1.heap.size := ⟨_, rfl⟩
  rw [← hr] at hrun2 hR2 hs2
  obtain ⟨W3, hnx3, hR3, hg3, hs3, hen3⟩ := rg_one hR2 0
  have hB3 : Below W1.heap.size W1 W3 := hB2.trans ⟨hg3.os, hg3.tape, hg3.output, hg3.size, fun g hg => hg3.block g (by have := hB2.size; omega) (by simp; omega)⟩
  obtain ⟨W4, hW4⟩ : ∃ W4, W4 = W3.alloc (.cells #[.int .i64 0, .int .i64 0, .int .i64 0] 114) := ⟨_, rfl⟩
  have hB4 : Below W3.heap.size W3 W4 := by rw [hW4]; exact (Below.refl _ _).alloc (Nat.le_refl _) _
  have hB14 : Below W1.heap.size W1 W4 := hB3.trans (hB4.mono hB3.size)
  obtain ⟨W5, hup5, hM5, hg5⟩ := mp_insert (hM1.below hB14) (k := 0) (by omega) (by simp)
  have la := ha.lt
  have lb := hb.lt
  have hlr : r < W4.heap.size := by have := hB4.size; omega
  have hSl : S < W1.heap.size := by omega
  have hl14 := hB14.size
  have hR5 : Rg W5 a r [0] [] := (hR3.below hB4).same (hg5.block a (by omega) (by simp; omega)) (hg5.block r hlr (by simp; omega))
  have hOV5 := rg_over hR5 0
  have hS5 : W5.heap[S]? = W1.heap[S]? := (hg5.block S (by omega) (by simp; omega)).trans (hB14.block S hSl)
  have d1 : W5.cell? ⟨S, 1, none⟩ = some (.map (some b)) := (World.cell?_of_block (a := ⟨S, 1, none⟩) hS5).trans c1
  have hBw5 : Below w.heap.size w W5 := (hB1.trans (hB14.mono hB1.size)).trans ⟨hg5.os, hg5.tape, hg5.output, hg5.size, fun g hg => hg5.block g (by omega) (by simp; omega)⟩
  obtain ⟨W6, hrun6, hR6, hB6, hs6⟩ := rg_start (hb.below hBw5)
  obtain ⟨r2, hr2⟩ : ∃ r2, r2 = W5.heap.size := ⟨_, rfl⟩
  rw [← hr2] at hrun6 hR6
  have hl5 := hg5.size
  have hOV6 := rg_over hR6 0
  have HOV6 := Lib.hid hOV6
  have HF : Hid (Mp W6 N [0] ∧ w.heap.size ≤ N ∧ Below w.heap.size w W6) := ⟨hM5.below hB6, by omega, hBw5.trans (hB6.mono hBw5.size)⟩
  have HRUN2 := Lib.hid hrun2
  have HNX3 := Lib.hid hnx3
  have HUP5 := Lib.hid hup5
  have HOV5 := Lib.hid hOV5
  have HRUN6 := Lib.hid hrun6
  have HW01 : Hid (W1 = (w.alloc (.map #[] 0)).alloc (.cells #[.map (some a), .map (some b)] 116) ∧ S = w.heap.size + 1 ∧ N = w.heap.size) := ⟨by rw [hW1, hW0], by omega, hN⟩
  have HW4 := Lib.hid hW4
  have mm := mkMap116 w
  clear hM hs0 hs1 hB1 hM1 hR2 hB2 hs2 hR3 hg3 hs3 hB3 hB4 hB14 hM5 hg5 la lb hlr hSl hl14 hR5 hOV5 hS5 hBw5 hR6 hB6 hs6 hl5 hW0 hW1 hW4 hN hS hr hr2 hrun2 hnx3 hup5 hrun6 ha hb hOV6
  unfold kv at *
  go_enter Try.func80, Try.ntmps80
  go_wp2_with fail
  have hw := HW01.out
  rw [← hw.1, ← hw.2.1, ← hw.2.2]
  clear hw HW01 mm
  refine wp_loop_rounds 3 ?_
  rw [rounds_succ]
  go_wp2_with (at_range; refine wpList_rng rfl _ 116 rfl _ rfl HRUN2.out ?_)
  refine wp_loop_rounds 2 ?_
  rw [rounds_succ]
  go_wp2_with (first
    | (at_next; refine wpList_nxt rfl _ rfl _ rfl HNX3.out ?_)
    | ((have hW := HW4.out; rw [← hW]; clear hW); refine wpList_upd rfl (.tmp 24) (.tmp 25) (.const (.bool true)) 116 (.inl rfl) _ _ _ rfl rfl rfl HUP5.out ?_))
  rw [rounds_succ]
  go_wp2_with (first
    | (at_next; refine wpList_nxt rfl _ rfl _ rfl HOV5.out ?_))
  rw [rounds_succ]
  go_wp2_with (first
    | (at_range; refine wpList_rng rfl _ 116 rfl _ rfl HRUN6.out ?_))
  refine wp_loop_rounds 1 ?_
  rw [rounds_succ]
  go_wp2_with (at_next; refine wpList_nxt rfl _ rfl _ rfl HOV6.out ?_)
  rw [rounds_succ]
  go_wp2_with fail
  go_ret
  exact ⟨N, rfl, HF.out⟩
set_option maxHeartbeats 4000000 in
theorem both_two {w : World} {a b : Nat} (ha : Mp w a [0]) (hb : Mp w b [2]) : Calls Try.prog 80 #[.map (some a), .map (some b)] w fun e w' => ∃ m, e = .returned (.map (some m)) ∧ Mp w' m [0, 2] ∧ w.heap.size ≤ m ∧ Below w.heap.size w w' := by
  obtain ⟨N, hN⟩ : ∃ N, N = w.heap.size := ⟨_, rfl⟩
  obtain ⟨W0, hW0⟩ : ∃ W0, W0 = w.alloc (.map #[] 0) := ⟨_, rfl⟩
  have hM : Mp W0 N [] := by rw [hW0, hN]; exact mp_new w
  obtain ⟨S, hS⟩ : ∃ S, S = W0.heap.size := ⟨_, rfl⟩
  obtain ⟨W1, hW1⟩ : ∃ W1, W1 = W0.alloc (.cells #[.map (some a), .map (some b)] 116) := ⟨_, rfl⟩
  have hs0 : W0.heap.size = N + 1 := by rw [hW0, hN]; simp
  have hs1 : W1.heap.size = N + 2 := by rw [hW1]; simp [hs0]
  have hB1 : Below w.heap.size w W1 := by rw [hW1, hW0]; exact ((Below.refl _ _).alloc (Nat.le_refl _) _).alloc (by simp) _
  have c0 : W1.cell? ⟨S, 0, none⟩ = some (.map (some a)) := by rw [hW1, hS]; exact World.cell?_alloc_at _ _ _ _ rfl
  have c1 : W1.cell? ⟨S, 1, none⟩ = some (.map (some b)) := by rw [hW1, hS]; exact World.cell?_alloc_at _ _ _ _ rfl
  have hM1 : Mp W1 N [] := hM.below (by rw [hW1]; exact (Below.refl _ _).alloc (Nat.le_refl _) _)
  obtain ⟨W2, hrun2, hR2, hB2, hs2⟩ := rg_start (ha.below hB1)
  obtain ⟨r, hr⟩ : ∃ r, r = W1.heap.size := ⟨_, rfl⟩
  rw [← hr] at hrun2 hR2 hs2
  obtain ⟨W3, hnx3, hR3, hg3, hs3, hen3⟩ := rg_one hR2 0
  have hB3 : Below W1.heap.size W1 W3 := hB2.trans ⟨hg3.os, hg3.tape, hg3.output, hg3.size, fun g hg => hg3.block g (by have := hB2.size; omega) (by simp; omega)⟩
  obtain ⟨W4, hW4⟩ : ∃ W4, W4 = W3.alloc (.cells #[.int .i64 0, .int .i64 0, .int .i64 0] 114) := ⟨_, rfl⟩
  have hB4 : Below W3.heap.size W3 W4 := by rw [hW4]; exact (Below.refl _ _).alloc (Nat.le_refl _) _
  have hB14 : Below W1.heap.size W1 W4 := hB3.trans (hB4.mono hB3.size)
  obtain ⟨W5, hup5, hM5, hg5⟩ := mp_insert (hM1.below hB14) (k := 0) (by omega) (by simp)
  have la := ha.lt
  have lb := hb.lt
  have hlr : r < W4.heap.size := by have := hB4.size; omega
  have hSl : S < W1.heap.size := by omega
  have hl14 := hB14.size
  have hR5 : Rg W5 a r [0] [] := (hR3.below hB4).same (hg5.block a (by omega) (by simp; omega)) (hg5.block r hlr (by simp; omega))
  have hOV5 := rg_over hR5 0
  have hS5 : W5.heap[S]? = W1.heap[S]? := (hg5.block S (by omega) (by simp; omega)).trans (hB14.block S hSl)
  have d1 : W5.cell? ⟨S, 1, none⟩ = some (.map (some b)) := (World.cell?_of_block (a := ⟨S, 1, none⟩) hS5).trans c1
  have hBw5 : Below w.heap.size w W5 := (hB1.trans (hB14.mono hB1.size)).trans ⟨hg5.os, hg5.tape, hg5.output, hg5.size, fun g hg => hg5.block g (by omega) (by simp; omega)⟩
  obtain ⟨W6, hrun6, hR6, hB6, hs6⟩ := rg_start (hb.below hBw5)
  obtain ⟨r2, hr2⟩ : ∃ r2, r2 = W5.heap.size := ⟨_, rfl⟩
  rw [← hr2] at hrun6 hR6
  have hl5 := hg5.size
  obtain ⟨W7, hnx7, hR7, hg7, hs7, hen7⟩ := rg_one hR6 0
  have hB7 : Below W5.heap.size W5 W7 := hB6.trans ⟨hg7.os, hg7.tape, hg7.output, hg7.size, fun g hg => hg7.block g (by have := hB6.size; omega) (by simp; omega)⟩
  obtain ⟨W8, hW8⟩ : ∃ W8, W8 = W7.alloc (.cells #[.int .i64 0, .int .i64 1, .int .i64 0] 114) := ⟨_, rfl⟩
  have hB8 : Below W7.heap.size W7 W8 := by rw [hW8]; exact (Below.refl _ _).alloc (Nat.le_refl _) _
  have hB58 : Below W5.heap.size W5 W8 := hB7.trans (hB8.mono hB7.size)
  have hl58 := hB58.size
  obtain ⟨W9, hup9, hM9, hg9⟩ := mp_insert (hM5.below hB58) (k := 2) (by omega) (by simp)
  have hR9 : Rg W9 b r2 [2] [] := (hR7.below hB8).same (hg9.block b (by omega) (by simp; omega)) (hg9.block r2 (by have := hB8.size; have := hR7.lt; omega) (by simp; omega))
  have HOV6 := Lib.hid (rg_over hR9 0)
  have HF : Hid (Mp W9 N [0, 2] ∧ w.heap.size ≤ N ∧ Below w.heap.size w W9) := ⟨hM9, by omega, (hBw5.trans (hB58.mono hBw5.size)).trans ⟨hg9.os, hg9.tape, hg9.output, hg9.size, fun g hg => hg9.block g (by have := hBw5.size; omega) (by simp; omega)⟩⟩
  have HNX7 := Lib.hid hnx7
  have HUP9 := Lib.hid hup9
  have HW8 := Lib.hid hW8
  have HRUN2 := Lib.hid hrun2
  have HNX3 := Lib.hid hnx3
  have HUP5 := Lib.hid hup5
  have HOV5 := Lib.hid hOV5
  have HRUN6 := Lib.hid hrun6
  have HW01 : Hid (W1 = (w.alloc (.map #[] 0)).alloc (.cells #[.map (some a), .map (some b)] 116) ∧ S = w.heap.size + 1 ∧ N = w.heap.size) := ⟨by rw [hW1, hW0], by omega, hN⟩
  have HW4 := Lib.hid hW4
  have mm := mkMap116 w
  clear hM hs0 hs1 hB1 hM1 hR2 hB2 hs2 hR3 hg3 hs3 hB3 hB4 hB14 hM5 hg5 la lb hlr hSl hl14 hR5 hOV5 hS5 hBw5 hR6 hB6 hs6 hl5 hW0 hW1 hW4 hN hS hr hr2 hrun2 hnx3 hup5 hrun6 ha hb hnx7 hR7 hg7 hs7 hB7 hB8 hB58 hl58 hup9 hM9 hg9 hR9 hW8
  unfold kv at *
  go_enter Try.func80, Try.ntmps80
  go_wp2_with fail
  have hw := HW01.out
  rw [← hw.1, ← hw.2.1, ← hw.2.2]
  clear hw HW01 mm
  refine wp_loop_rounds 3 ?_
  rw [rounds_succ]
  go_wp2_with (at_range; refine wpList_rng rfl _ 116 rfl _ rfl HRUN2.out ?_)
  refine wp_loop_rounds 2 ?_
  rw [rounds_succ]
  go_wp2_with (first
    | (at_next; refine wpList_nxt rfl _ rfl _ rfl HNX3.out ?_)
    | ((have hW := HW4.out; rw [← hW]; clear hW); refine wpList_upd rfl (.tmp 24) (.tmp 25) (.const (.bool true)) 116 (.inl rfl) _ _ _ rfl rfl rfl HUP5.out ?_))
  rw [rounds_succ]
  go_wp2_with (first
    | (at_next; refine wpList_nxt rfl _ rfl _ rfl HOV5.out ?_))
  rw [rounds_succ]
  go_wp2_with (first
    | (at_range; refine wpList_rng rfl _ 116 rfl _ rfl HRUN6.out ?_))
  refine wp_loop_rounds 2 ?_
  rw [rounds_succ]
  go_wp2_with (first
    | (at_next; refine wpList_nxt rfl _ rfl _ rfl HNX7.out ?_)
    | ((have hW := HW8.out; rw [← hW]; clear hW); refine wpList_upd rfl (.tmp 24) (.tmp 25) (.const (.bool true)) 116 (.inl rfl) _ _ _ rfl rfl rfl HUP9.out ?_))
  rw [rounds_succ]
  go_wp2_with (at_next; refine wpList_nxt rfl _ rfl _ rfl HOV6.out ?_)
  rw [rounds_succ]
  go_wp2_with fail
  go_ret
  exact ⟨N, rfl, HF.out⟩
end Go.Proofs.Ythnhmfmlhlpggaa
