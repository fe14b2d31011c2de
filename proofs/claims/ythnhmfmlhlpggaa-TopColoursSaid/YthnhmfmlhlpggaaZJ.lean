/- What is proved: the degree of edges (contracts of functions of patch, and what they need). No condition beyond those in each statement. -/
import Derived.Test.YthnhmfmlhlpggaaZI
import Derived.Test.YthnhmfmlhlpggaaKb
import Derived.Test.YthnhmfmlhlpggaaD
namespace Go.Proofs.Ythnhmfmlhlpggaa
open Go.RowKit Kn
set_option maxRecDepth 100000

/-- Edges whose ends are small. -/
def EsSm (es : List (Int × Int)) : Prop := ∀ e ∈ es, (0 ≤ e.1 ∧ e.1 ≤ 255) ∧ (0 ≤ e.2 ∧ e.2 ≤ 255)
theorem mkMap96 (w : World) : (Instr.makeMap 96 none).run Try.prog w = .ok (.map (some w.heap.size)) (w.alloc (.map #[] 0)) := by kernel_rfl
def DgI (w : World) (es : List (Int × Int)) (m : Nat) (v5 v12 : Value) (wr : World) : Prop :=
  ∃ i : Nat, v12 = .int .i64 i ∧ i ≤ m ∧ v5 = .int .i64 (degS es i) ∧ Hid (Mi wr w.heap.size i (fun x => degC (eA es) x i)) ∧ Hid (Mi wr (w.heap.size + 1) i (fun x => degC (eB es) x i)) ∧ Hid (Below w.heap.size w wr)
theorem degC_le (A : Nat → Int) (v : Int) : ∀ k, degC A v k ≤ k
  | 0 => Nat.le_refl _
  | k + 1 => by have := degC_le A v k; rw [degC_succ]; split <;> omega
theorem degS_le (es : List (Int × Int)) : ∀ k, degS es k ≤ k
  | 0 => Nat.le_refl _
  | k + 1 => by
    have := degS_le es k
    have h1 := degC_le (eA es) (eA es k) (k + 1)
    have h2 := degC_le (eB es) (eB es k) (k + 1)
    unfold degS
    omega
theorem small_wf {x : Int} (h : 0 ≤ x ∧ x ≤ 1000000) : (Lit.int .i64 x).wf = true := by
  simp [Lit.wf, IntKind.min, IntKind.max, IntKind.signed, IntKind.bits]; omega
theorem Mi.congr {w : World} {m n : Nat} {f g : Int → Int} (h : Mi w m n f) (e : ∀ x, f x = g x) : Mi w m n g := by
  have : f = g := funext e
  rw [← this]; exact h
theorem grown_below {w w' : World} {m N : Nat} (h : w.grownBy w' (some m)) (hm : N ≤ m) (hN : N ≤ w.heap.size) : Below N w w' :=
  ⟨h.os, h.tape, h.output, h.size, fun k hk => h.block k (by omega) (by simp; omega)⟩

set_option maxHeartbeats 2000000 in
theorem degree_calls (es : List (Int × Int)) (hsm : EsSm es) (A : Option Addr) (m c : Nat) (hm : m = es.length) (hm2 : m ≤ 1000) (hl : m ≤ c) (hc : c ≤ 9223372036854775807) (w : World) (hA : RdE w A es) :
    Calls Try.prog 31 #[.slice A m c] w fun e w' => e = .returned (.int .i64 (degS es es.length)) ∧ Below w.heap.size w w' := by
  have HSM := Lib.hid hsm
  have HM := Lib.hid hm
  have HA := Lib.hid hA
  have HN1 := Lib.hid (mi_new w)
  have HN2 := Lib.hid (mi_new (w.alloc (.map #[] 0)))
  have mm1 := mkMap96 w
  have mm2 := mkMap96 (w.alloc (.map #[] 0))
  clear hsm hm hA
  go_enter Try.func31, Try.ntmps31
  go_wp2_with fail
  go_loopw [5, 12] (fun v5 v12 wr => DgI w es m v5 v12 wr) (fun _ v12 _ => m - (intOf v12).toNat)
  case atStart =>
    refine ⟨0, rfl, Nat.zero_le _, rfl, ?_, ?_, ?_⟩
    · exact HN1.out.below ((Below.refl _ _).alloc (Nat.le_refl _) _)
    · have := HN2.out; simp at this; exact this
    · exact ((Below.refl _ w).alloc (Nat.le_refl _) _).alloc (by simp) _
  case round =>
    obtain ⟨i, hv12, hi, hv5, HP, HQ, HB⟩ := hrel
    subst hv12
    subst hv5
    by_cases hlt : i < m
    · have hil : i < es.length := by have := HM.out; omega
      obtain ⟨b, o, rfl, hb, hcx, hcy⟩ := (HA.out.below HB.out).at i hil
      have hsmi := HSM.out _ (List.getElem_mem hil)
      have HEA : Hid (eA es i = es[i].1) := by show _ = _; unfold eA; rw [List.getD_eq_getElem?_getD, List.getElem?_eq_getElem hil]; rfl
      have HEB : Hid (eB es i = es[i].2) := by show _ = _; unfold eB; rw [List.getD_eq_getElem?_getD, List.getElem?_eq_getElem hil]; rfl
      obtain ⟨x, hx⟩ : ∃ x, x = es[i].1 := ⟨_, rfl⟩
      obtain ⟨y, hy⟩ : ∃ y, y = es[i].2 := ⟨_, rfl⟩
      rw [← hx] at hcx hsmi HEA
      rw [← hy] at hcy hsmi HEB
      clear hx hy
      obtain ⟨⟨x0, x1⟩, y0, y1⟩ := hsmi
      have hwx := small_wf (x := x) ⟨x0, by omega⟩
      have hwy := small_wf (x := y) ⟨y0, by omega⟩
      -- the worlds
      have hgt : w.heap.size + 1 < wr.heap.size := HQ.out.lt
      obtain ⟨W1, hW1⟩ : ∃ W1, W1 = wr.alloc (.cells #[.int .i64 x, .int .i64 y] 26) := ⟨_, rfl⟩
      have hb1 : Below wr.heap.size wr W1 := by rw [hW1]; exact (Below.refl _ _).alloc (Nat.le_refl _) _
      have p1 := HP.out.below hb1
      have q1 := HQ.out.below hb1
      have dx0 := degC_le (eA es) x i
      have dy0 := degC_le (eB es) y i
      obtain ⟨dx, hdx⟩ : ∃ d, d = degC (eA es) x i := ⟨_, rfl⟩
      obtain ⟨dy, hdy⟩ : ∃ d, d = degC (eB es) y i := ⟨_, rfl⟩
      rw [← hdx] at dx0
      rw [← hdy] at dy0
      have l1 : (Instr.lookup 96 (.map (some w.heap.size)) (.int .i64 x) false).run Try.prog W1 = .ok (.int .i64 dx) W1 := by rw [hdx]; exact mi_lookup p1 x hwx
      obtain ⟨W2, u1, p2, g1⟩ := mi_update p1 (by omega) x ((dx : Int) + 1) hwx (small_wf (by omega))
      have q2 := q1.kept g1 (by simp)
      have l2 : (Instr.lookup 96 (.map (some (w.heap.size + 1))) (.int .i64 y) false).run Try.prog W2 = .ok (.int .i64 dy) W2 := by rw [hdy]; exact mi_lookup q2 y hwy
      obtain ⟨W3, u2, q3, g2⟩ := mi_update q2 (by omega) y ((dy : Int) + 1) hwy (small_wf (by omega))
      have p3 := p2.kept g2 (by simp)
      have l3 : (Instr.lookup 96 (.map (some w.heap.size)) (.int .i64 x) false).run Try.prog W3 = .ok (.int .i64 ((dx : Int) + 1)) W3 := (mi_lookup p3 x hwx).trans (by rw [if_pos rfl])
      have l4 : (Instr.lookup 96 (.map (some (w.heap.size + 1))) (.int .i64 y) false).run Try.prog W3 = .ok (.int .i64 ((dy : Int) + 1)) W3 := (mi_lookup q3 y hwy).trans (by rw [if_pos rfl])
      have cx1 : W1.cell? ⟨wr.heap.size, 0, none⟩ = some (.int .i64 x) := by rw [hW1]; go_simp
      have cy1 : W1.cell? ⟨wr.heap.size, 1, none⟩ = some (.int .i64 y) := by rw [hW1]; go_simp
      have hs1 : W1.heap.size = wr.heap.size + 1 := by rw [hW1]; simp
      have bl2 : W2.heap[wr.heap.size]? = W1.heap[wr.heap.size]? := g1.block _ (by omega) (by simp; omega)
      have bl3 : W3.heap[wr.heap.size]? = W2.heap[wr.heap.size]? := g2.block _ (by have := g1.size; omega) (by simp; omega)
      have cy2 : W2.cell? ⟨wr.heap.size, 1, none⟩ = some (.int .i64 y) := (World.cell?_of_block bl2).trans cy1
      have cx3 : W3.cell? ⟨wr.heap.size, 0, none⟩ = some (.int .i64 x) := (World.cell?_of_block (bl3.trans bl2)).trans cx1
      have cy3 : W3.cell? ⟨wr.heap.size, 1, none⟩ = some (.int .i64 y) := (World.cell?_of_block bl3).trans cy2
      have HP3 : Hid (Mi W3 w.heap.size (i + 1) (fun x' => degC (eA es) x' (i + 1))) := p3.congr fun v => by
        rw [degC_succ, HEA.out]
        by_cases e : v = x
        · rw [if_pos e, if_pos e.symm, e, hdx]; omega
        · rw [if_neg e, if_neg (fun e' => e e'.symm)]; omega
      have HQ3 : Hid (Mi W3 (w.heap.size + 1) (i + 1) (fun x' => degC (eB es) x' (i + 1))) := q3.congr fun v => by
        rw [degC_succ, HEB.out]
        by_cases e : v = y
        · rw [if_pos e, if_pos e.symm, e, hdy]; omega
        · rw [if_neg e, if_neg (fun e' => e e'.symm)]; omega
      have HB3 : Hid (Below w.heap.size w W3) :=
        (((HB.out.trans (hb1.mono HB.out.size)).trans (grown_below g1 (Nat.le_refl _) (by have := HB.out.size; omega))).trans (grown_below g2 (by omega) (by have := HB.out.size; have := g1.size; omega)))
      have HDG : Hid (degS es (i + 1) = max (degS es i) (max (dx + 1) (dy + 1))) := by
        show _ = _
        rw [degS, degC_succ, degC_succ, HEA.out, HEB.out, if_pos rfl, if_pos rfl, ← hdx, ← hdy]
      have hds := degS_le es i
      obtain ⟨dg, hdg⟩ : ∃ d, d = degS es i := ⟨_, rfl⟩
      rw [← hdg] at HDG hds
      rw [← hdg]
      have HU1 := Lib.hid u1
      have HU2 := Lib.hid u2
      clear p1 q1 p2 q2 p3 q3 u1 u2 g1 g2 bl2 bl3 hs1 hdx hdy HP HQ HEA HEB hdg hb1
      subst hW1
      go_wp2_with (first
        | (at_mapUpdate; refine wpList_upd rfl (.tmp 16) (.tmp 18) (.tmp 20) 96 (.inl rfl) _ _ _ rfl rfl rfl HU1.out ?_)
        | (at_mapUpdate; refine wpList_upd rfl (.tmp 21) (.tmp 23) (.tmp 25) 96 (.inl rfl) _ _ _ rfl rfl rfl HU2.out ?_))
      go_roundw
      case rel =>
        refine ⟨i + 1, by go_num, by omega, ?_, HP3.out, HQ3.out, HB3.out⟩
        rw [HDG.out]
        refine congrArg (Value.int .i64) ?_
        split <;> split <;> omega
      case measure => simp [intOf]; omega
    · have he : i = es.length := by have := HM.out; omega
      subst he
      go_wp2_with fail
      go_ret
      exact ⟨rfl, HB.out⟩
end Go.Proofs.Ythnhmfmlhlpggaa
