/- What is proved: rows of pairs and of bytes, appends in regions of open order (ported from the route seat of this hand). No condition beyond those in each statement. -/
import Derived.Test.YthnhmfmlhlpggaaN
import Derived.Deep.DeepCutAuto
import Derived.Deep.RegionHeld3
import Derived.Deep.RegionLaw
import Derived.Deep.CutRange
import Derived.Deep.CutBlock
import Derived.Deep.AppendLies
namespace Go.Proofs.Ythnhmfmlhlpggaa
open Go.RowKit
set_option maxRecDepth 100000

/-- A row of pairs of bytes. -/
def RdP (w : World) (A : Option Addr) (ps : List (Int × Int)) : Prop :=
  ps ≠ [] → ∃ b o, A = some ⟨b, o, none⟩ ∧ b < w.heap.size ∧ ∀ i (hi : i < ps.length), w.cell? ⟨b, o + i * 2, none⟩ = some (.int .u8 ps[i].1) ∧ w.cell? ⟨b, o + i * 2 + 1, none⟩ = some (.int .u8 ps[i].2)
theorem RdP.below {w w' : World} {A : Option Addr} {es : List (Int × Int)} (h : RdP w A es) (hb : Below w.heap.size w w') : RdP w' A es := fun hne => by
  obtain ⟨b, o, e, hlt, hc⟩ := h hne
  exact ⟨b, o, e, Nat.lt_of_lt_of_le hlt hb.size, fun i hi => ⟨(hb.cell (p := ⟨b, o + i * 2, none⟩) hlt).trans (hc i hi).1, (hb.cell (p := ⟨b, o + i * 2 + 1, none⟩) hlt).trans (hc i hi).2⟩⟩
theorem RdP.at {w : World} {A : Option Addr} {es : List (Int × Int)} (h : RdP w A es) (i : Nat) (hi : i < es.length) :
    ∃ b o, A = some ⟨b, o, none⟩ ∧ b < w.heap.size ∧ w.cell? ⟨b, o + i * 2, none⟩ = some (.int .u8 es[i].1) ∧ w.cell? ⟨b, o + i * 2 + 1, none⟩ = some (.int .u8 es[i].2) := by
  obtain ⟨b, o, e, hlt, hc⟩ := h (fun e => by subst e; simp at hi)
  exact ⟨b, o, e, hlt, hc i hi⟩
def pairC (es : List (Int × Int)) : List Value := es.flatMap fun e => [.int .i64 e.1, .int .i64 e.2]
theorem pairC_snoc (es : List (Int × Int)) (e : Int × Int) : pairC (es ++ [e]) = pairC es ++ [.int .i64 e.1, .int .i64 e.2] := by simp [pairC]
theorem pairC_len (es : List (Int × Int)) : (pairC es).length = es.length * 2 := by
  induction es with
  | nil => rfl
  | cons e es ih => simp only [pairC, List.flatMap_cons, List.length_append] at *; rw [ih]; simp; omega
theorem pairC_get : ∀ (es : List (Int × Int)) (i : Nat) (hi : i < es.length), (pairC es)[i * 2]? = some (.int .i64 es[i].1) ∧ (pairC es)[i * 2 + 1]? = some (.int .i64 es[i].2)
  | [], i, hi => by simp at hi
  | e :: es, 0, _ => ⟨rfl, rfl⟩
  | e :: es, i + 1, hi => by
    have := pairC_get es i (by simpa using hi)
    have h2 : pairC (e :: es) = .int .i64 e.1 :: .int .i64 e.2 :: pairC es := rfl
    rw [h2, show (i + 1) * 2 = i * 2 + 1 + 1 by omega, List.getElem?_cons_succ, List.getElem?_cons_succ, List.getElem?_cons_succ, List.getElem?_cons_succ]
    exact this
/-- A row of edges of the call's own. -/
def OwE (w : World) (base g c : Nat) (es : List (Int × Int)) : Prop := w.ownsRow base 26 2 (.slice (some ⟨g, 0, none⟩) es.length c) es.length (pairC es)
theorem OwE.rd {w : World} {base g c : Nat} {es : List (Int × Int)} (h : OwE w base g c es) : RdE w (some ⟨g, 0, none⟩) es := fun _ => by
  refine ⟨g, 0, rfl, (World.ownsRow.lt h g rfl).2, fun i hi => ?_⟩
  obtain ⟨h1, h2⟩ := pairC_get es i hi
  rw [Nat.zero_add]
  exact ⟨by rw [World.ownsRow.cellAt h (i * 2) (by omega)]; exact h1, by rw [World.ownsRow.cellAt h (i * 2 + 1) (by omega)]; exact h2⟩
theorem OwE.bd {w : World} {base g c : Nat} {es : List (Int × Int)} (h : OwE w base g c es) : es.length ≤ c ∧ c ≤ 9223372036854775807 := by
  rcases h.2 with ⟨h', _⟩ | ⟨g', cap', cur, h', _, _, hnc, hcm, _⟩
  · cases h'
  · cases h'; exact ⟨hnc, by simpa [maxLen] using hcm⟩
theorem info26 : (Try.prog.info? 26).map (fun i => (i.zero, i.size, i.bytes)) = some (some (.agg #[.int .i64 0, .int .i64 0]), 2, 16) := by kernel_rfl
theorem owe_new (w : World) (base : Nat) (hb : base ≤ w.heap.size) : OwE (w.alloc (.cells #[] 26)) base w.heap.size 0 [] :=
  ⟨rfl, .inr ⟨w.heap.size, 0, #[], rfl, hb, World.alloc_heap_new w _, Nat.le_refl _, by simp, rfl, rfl⟩⟩
theorem owe_push {w : World} {base g c : Nat} {es : List (Int × Int)} (x y : Int) (h : OwE w base g c es) (hb : base ≤ w.heap.size) (hl : es.length ≤ 1000) :
    ∃ g' c' w', (Builtin.append_ #[23, 23] 23 #[.slice (some ⟨g, 0, none⟩) es.length c, .slice (some ⟨w.heap.size, 0, none⟩) 1 1]).run Try.prog (w.alloc (.cells #[.int .i64 x, .int .i64 y] 26)) = .ok (.slice (some ⟨g', 0, none⟩) (es.length + 1) c') w' ∧ OwE w' base g' c' (es ++ [(x, y)]) ∧ Below base w w' := by
  obtain ⟨i0, hi, hz0, hz1, hz2⟩ := info_parts info26
  have hn2 : ∀ j u, ([.int .i64 x, .int .i64 y] : List Value)[j]? = some u → (w.alloc (.cells #[.int .i64 x, .int .i64 y] 26)).cell? ((⟨w.heap.size, 0, none⟩ : Addr).add j) = some u := by
    intro j u hj
    rw [addr_add, Nat.zero_add, World.cell?_alloc_at _ _ _ _ rfl]
    simpa using hj
  obtain ⟨v', w', hrun, r1, r2, r3⟩ := run_append_own (P := Try.prog) (w.alloc (.cells #[.int .i64 x, .int .i64 y] 26)) base 23 23 26 i0 (.agg #[.int .i64 0, .int .i64 0]) 2 16 Try.underlying23 hi hz0 hz1 hz2 rfl (by decide) _ es.length (pairC es) (World.ownsRow.alloc h _) ⟨w.heap.size, 0, none⟩ 1 1 [.int .i64 x, .int .i64 y] rfl hn2 (by simp [Value.oneCell']) (by simp [maxLen]; omega) (by omega) (by simp; omega)
  have hB : Below base w w' := ((Below.refl _ w).alloc hb _).grown r2 (by simp; omega) (fun k hk => (World.ownsRow.lt h k hk).1)
  rcases r1.2 with ⟨h', h''⟩ | ⟨g', cap, cur, e, hr⟩
  · exact absurd (r3.1 h').1 (by simp)
  · subst e
    refine ⟨g', cap, w', hrun, ?_, hB⟩
    unfold OwE
    rw [List.length_append, pairC_snoc]
    exact r1
/-- An append at a step of a region of open order. -/
theorem step_app {P : Program} {W : World} {ops : Array Oper} {o : Oper} {a : Act} {K : Act → World → Prop} {Q : Exit → Act → World → Prop} {E : Prop} {R : Value → World → Prop} (hgd : o.guard = none) (s x : Operand) (t ty : TypeId)
    (ho : o.op = .call { callee := .builtin .append, args := #[s, x], argTypes := #[t, t] }) (hty : o.type = ty) (v1 v2 : Value) (hs : a.eval s = v1) (hx : a.eval x = v2)
    (hrun : ∃ v' w', (Builtin.append_ #[t, t] ty #[v1, v2]).run P W = .ok v' w' ∧ R v' w') (hK : ∀ v' w', R v' w' → K (a.put o.dst v') w') :
    if Region.wanted o (yielded ops a.tmps) = true then Oper.wp P o a W K Q else E := by
  have hw : Region.wanted o (yielded ops a.tmps) = true := by simp [Region.wanted, hgd]
  rw [if_pos hw]
  obtain ⟨v', w', hr, hR⟩ := hrun
  unfold Oper.wp
  simp [execOp, ho, hty, resolve, invoke, builtin, hs, hx, hr, Result.andThen]
  exact hK _ _ hR
/-- A row of bytes. -/
def RdU (w : World) (A : Option Addr) (bs : List Int) : Prop :=
  bs ≠ [] → ∃ b o, A = some ⟨b, o, none⟩ ∧ b < w.heap.size ∧ ∀ i (hi : i < bs.length), w.cell? ⟨b, o + i, none⟩ = some (.int .u8 bs[i])
theorem RdU.below {w w' : World} {A : Option Addr} {xs : List Int} (h : RdU w A xs) (hb : Below w.heap.size w w') : RdU w' A xs := fun hne => by
  obtain ⟨b, o, e, hlt, hc⟩ := h hne
  exact ⟨b, o, e, Nat.lt_of_lt_of_le hlt hb.size, fun i hi => (hb.cell (p := ⟨b, o + i, none⟩) hlt).trans (hc i hi)⟩
theorem RdU.at {w : World} {A : Option Addr} {xs : List Int} (h : RdU w A xs) (i : Nat) (hi : i < xs.length) :
    ∃ b o, A = some ⟨b, o, none⟩ ∧ b < w.heap.size ∧ w.cell? ⟨b, o + i, none⟩ = some (.int .u8 xs[i]) := by
  obtain ⟨b, o, e, hlt, hc⟩ := h (fun e => by subst e; simp at hi)
  exact ⟨b, o, e, hlt, hc i hi⟩
theorem Arr.drew {w : World} {base g c : Nat} {xs : List Int} (h : Arr w base g c xs) : Arr w.drew base g c xs := h
theorem Arr.alloc {w : World} {base g c : Nat} {xs : List Int} (h : Arr w base g c xs) (o : Obj) : Arr (w.alloc o) base g c xs := World.ownsRow.alloc h _
theorem arr_newE (w : World) (base g : Nat) (hb : base ≤ w.heap.size) (hg : w.heap.size = g) : Arr (w.alloc (.cells #[] 3)) base g 0 [] := hg ▸ ow_new w base hb
/-- One integer in a block of its own. -/
def NI (w : World) (b : Nat) (x : Int) : Prop := b < w.heap.size ∧ w.cell? ⟨b, 0, none⟩ = some (.int .i64 x)
theorem ni_newE (w : World) (b : Nat) (x : Int) (hg : w.heap.size = b) : NI (w.alloc (.cells #[.int .i64 x] 3)) b x := hg ▸ ⟨by simp, World.cell?_alloc_at _ _ _ _ rfl⟩
theorem NI.drew {w : World} {b : Nat} {x : Int} (h : NI w b x) : NI w.drew b x := h
theorem NI.alloc {w : World} {b : Nat} {x : Int} (h : NI w b x) (o : Obj) : NI (w.alloc o) b x :=
  have hb : Below w.heap.size w (w.alloc o) := (Below.refl _ w).alloc (Nat.le_refl _) o
  ⟨Nat.lt_of_lt_of_le h.1 hb.size, (hb.cell (p := ⟨b, 0, none⟩) h.1).trans h.2⟩
/-- What an append leaves. -/
def AppI (W : World) (base g : Nat) (xs : List Int) (v' : Value) (w' : World) : Prop :=
  ∃ g' c', v' = .slice (some ⟨g', 0, none⟩) xs.length c' ∧ Arr w' base g' c' xs ∧ Below base W w' ∧ ∀ b x, b ≠ g → NI W b x → NI w' b x
theorem owi_app {w : World} {base g c n m : Nat} {xs ys : List Int} {a : Addr} {cf : Nat} (hn : n = xs.length) (hm : m = ys.length) (h : Arr w base g c xs) (hF : ∀ j (hj : j < ys.length), w.cell? (a.add j) = some (.int .i64 ys[j])) (hb : base ≤ w.heap.size) (hl : xs.length + ys.length ≤ 1000) :
    ∃ v' w', (Builtin.append_ #[27, 27] 27 #[.slice (some ⟨g, 0, none⟩) n c, .slice (some a) m cf]).run Try.prog w = .ok v' w' ∧ AppI w base g (xs ++ ys) v' w' := by
  subst hn hm
  obtain ⟨i0, hi, hz0, hz1, hz2⟩ := info_parts info3'
  have hn2 : ∀ j u, (ys.map (Value.int .i64))[j]? = some u → w.cell? (a.add j) = some u := by
    intro j u hj
    obtain ⟨hj1, hj2⟩ := List.getElem?_eq_some_iff.1 hj
    have hjm : j < ys.length := by simpa using hj1
    rw [hF j hjm, ← hj2, List.getElem_map]
  have hone : ∀ u ∈ ys.map (Value.int .i64), u.oneCell' = true := by
    intro u hu
    obtain ⟨e, _, rfl⟩ := List.mem_map.1 hu
    rfl
  obtain ⟨v', w', hrun, r1, r2, r3⟩ := run_append_own (P := Try.prog) w base 27 27 3 i0 (.int .i64 0) 1 8 Try.underlying27 hi hz0 hz1 hz2 rfl (by decide) _ xs.length (xs.map (Value.int .i64)) h a ys.length cf (ys.map (Value.int .i64)) (by simp) hn2 hone (by simp [maxLen]; omega) (by omega) hb
  have hB : Below base w w' := (Below.refl _ w).grown r2 hb (fun k hk => (World.ownsRow.lt h k hk).1)
  refine ⟨v', w', hrun, ?_⟩
  rw [← List.map_append, ← List.length_append] at r1
  rcases r1.2 with ⟨h', h''⟩ | ⟨g', cap, cur, e, hr⟩
  · exact absurd (r3.1 h').1 (by simp)
  · subst e
    refine ⟨g', cap, rfl, r1, hB, fun b x hne hn => ?_⟩
    have f (o : Nat) : w'.cell? ⟨b, o, none⟩ = w.cell? ⟨b, o, none⟩ := World.grownBy.cell_far r2 ⟨b, o, none⟩ hn.1 (by simpa [Value.ownBlock] using hne)
    have c0 := (f 0).trans hn.2
    exact ⟨World.block_lt_of_cell? _ _ c0, c0⟩
theorem take_cells {w W : World} {base g c : Nat} {o : List Int} (h : Arr W base g c o) (hb : Below W.heap.size W w) (t : Nat) : ∀ j (hj : j < (o.take t).length), w.cell? ((⟨g, 0, none⟩ : Addr).add j) = some (.int .i64 (o.take t)[j]) := fun j hj => by
  have hj' : j < o.length := by simp at hj; omega
  rw [addr_add, Nat.zero_add, hb.cell (p := ⟨g, j, none⟩) h.lt.2, h.at j hj', List.getElem_take]
theorem drop_cells {w W : World} {base g c : Nat} {o : List Int} (h : Arr W base g c o) (hb : Below W.heap.size W w) (t : Nat) : ∀ j (hj : j < (o.drop t).length), w.cell? ((⟨g, t, none⟩ : Addr).add j) = some (.int .i64 (o.drop t)[j]) := fun j hj => by
  have hj' : t + j < o.length := by simp at hj; omega
  rw [addr_add, hb.cell (p := ⟨g, t + j, none⟩) h.lt.2, h.at (t + j) hj', List.getElem_drop]
theorem ni_cells {w : World} {b : Nat} {x : Int} (h : NI w b x) : ∀ j (hj : j < [x].length), w.cell? ((⟨b, 0, none⟩ : Addr).add j) = some (.int .i64 [x][j]) := fun j hj => by
  have e : j = 0 := by simp at hj; omega
  subst e
  rw [addr_add]
  exact h.2
theorem owi_tail {w W : World} {base g c n m b c' t base' : Nat} {xs o : List Int} {cf : Nat} (hn : n = xs.length) (hm : m = o.length - t) (h : Arr w base g c xs) (ho : Arr W base' b c' o) (hB : Below W.heap.size W w) (hb : base ≤ w.heap.size) (hl : xs.length + o.length ≤ 1000) :
    ∃ v' w', (Builtin.append_ #[27, 27] 27 #[.slice (some ⟨g, 0, none⟩) n c, .slice (if c' = t then some ⟨b, 0, none⟩ else some ⟨b, t, none⟩) m cf]).run Try.prog w = .ok v' w' ∧ AppI w base g (xs ++ o.drop t) v' w' := by
  by_cases e : c' = t
  · rw [if_pos e]
    have hoc := ho.bd
    have hd : o.drop t = [] := List.drop_eq_nil_of_le (by omega)
    exact owi_app hn (by rw [hd]; simp; omega) h (by rw [hd]; intro j hj; simp at hj) hb (by rw [hd]; simp; omega)
  · rw [if_neg e]
    exact owi_app hn (by simp; omega) h (drop_cells ho hB t) hb (by simp; omega)
end Go.Proofs.Ythnhmfmlhlpggaa
