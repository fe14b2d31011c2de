/- What is proved: words for slices of integers (ported from the paint seat of this hand). No condition beyond those in each statement. -/
import Derived.Test.YthnhmfmlhlpggaaProg
import Derived.WalkKit
import Derived.WalkSpells
import Derived.WalkLawsBesides
import Derived.Deep.QuietTactic
import Derived.BigQuiet
import Derived.Lib.Hide
import Derived.Deep.LoopGhost
import Derived.RangeFuncRecord
import Derived.BigRegion
namespace Go.Proofs.Ythnhmfmlhlpggaa
open Go.RowKit
set_option maxRecDepth 100000

/-- What a slice's address reads as: the cells of its elements. -/
def Rd (w : World) (A : Option Addr) (xs : List Int) : Prop :=
  xs ≠ [] → ∃ b o, A = some ⟨b, o, none⟩ ∧ b < w.heap.size ∧ ∀ i (hi : i < xs.length), w.cell? ⟨b, o + i, none⟩ = some (.int .i64 xs[i])

theorem Rd.below {w w' : World} {A : Option Addr} {xs : List Int} (h : Rd w A xs) (hb : Below w.heap.size w w') : Rd w' A xs := fun hne => by
  obtain ⟨b, o, e, hlt, hc⟩ := h hne
  exact ⟨b, o, e, Nat.lt_of_lt_of_le hlt hb.size, fun i hi => (hb.cell (p := ⟨b, o + i, none⟩) hlt).trans (hc i hi)⟩

theorem Rd.at {w : World} {A : Option Addr} {xs : List Int} (h : Rd w A xs) (i : Nat) (hi : i < xs.length) :
    ∃ b o, A = some ⟨b, o, none⟩ ∧ b < w.heap.size ∧ w.cell? ⟨b, o + i, none⟩ = some (.int .i64 xs[i]) := by
  obtain ⟨b, o, e, hlt, hc⟩ := h (fun e => by subst e; simp at hi)
  exact ⟨b, o, e, hlt, hc i hi⟩

/-- A slice value that reads as a list of ints. -/
def Sl (w : World) (v : Value) (xs : List Int) : Prop := ∃ A c, v = .slice A xs.length c ∧ xs.length ≤ c ∧ c ≤ 9223372036854775807 ∧ (A = none → c = 0) ∧ Rd w A xs

theorem Sl.below {w w' : World} {v : Value} {xs : List Int} (h : Sl w v xs) (hb : Below w.heap.size w w') : Sl w' v xs := by
  obtain ⟨A, c, e, h1, h2, h3, h4⟩ := h
  exact ⟨A, c, e, h1, h2, h3, h4.below hb⟩

/-- A slice value whose row the call itself has made (block numbers from base on). -/
def Ow (w : World) (base : Nat) (v : Value) (xs : List Int) : Prop := w.ownsRow base 3 1 v xs.length (xs.map (Value.int .i64))

theorem addr_add (b o j : Nat) : (⟨b, o, none⟩ : Addr).add j = ⟨b, o + j, none⟩ := by unfold Addr.add; split <;> simp_all

theorem Ow.sl {w : World} {base : Nat} {v : Value} {xs : List Int} (h : Ow w base v xs) : Sl w v xs := by
  have h' := h
  rcases h with ⟨hl, ⟨rfl, hn⟩ | ⟨g, cap, cur, rfl, hb, hg, h1, h2, h3, h4⟩⟩
  · have : xs = [] := List.eq_nil_of_length_eq_zero hn
    subst this
    exact ⟨none, 0, rfl, Nat.le_refl _, by omega, fun _ => rfl, fun h => absurd rfl h⟩
  · refine ⟨some ⟨g, 0, none⟩, cap, rfl, h1, by simpa [maxLen] using h2, fun h => (by cases h), fun _ => ⟨g, 0, rfl, (Array.getElem?_eq_some_iff.1 hg).1, fun i hi => ?_⟩⟩
    have := World.ownsRow.cells h' (g := g) rfl i (.int .i64 xs[i]) (by simp [hi])
    rwa [addr_add] at this

theorem Ow.below {w w' : World} {base : Nat} {v : Value} {xs : List Int} (h : Ow w base v xs) (hb : Below w.heap.size w w') : Ow w' base v xs := by
  refine World.ownsRow.kept h (row := none) ⟨hb.os, hb.tape, hb.output, hb.size, fun k hk _ => hb.block k hk⟩ ?_
  cases v.ownBlock <;> simp

theorem info3 : (Try.prog.info? 3).map (fun i => (i.zero, i.size, i.bytes)) = some (some (.int .i64 0), 1, 8) := by kernel_rfl

theorem any_take_succ {p : Int → Bool} {xs : List Int} {k : Nat} (hk : k < xs.length) (h : (xs.take k).any p = false) (h' : p xs[k] = false) : (xs.take (k + 1)).any p = false := by
  rw [List.take_succ_eq_append_getElem hk, List.any_append, h]; simp [h']

theorem any_at {p : Int → Bool} {xs : List Int} {k : Nat} (hk : k < xs.length) (h : p xs[k] = true) : xs.any p = true := by
  rw [List.any_eq_true]; exact ⟨xs[k], List.getElem_mem hk, h⟩

theorem ret_bool {a b : Bool} (h : a = b) : Ending.returned (.bool a) = .returned (.bool b) := by rw [h]

theorem ret_int {k : IntKind} {a b : Int} (h : a = b) : Ending.returned (.int k a) = .returned (.int k b) := by rw [h]

theorem wpList_app {P : Program} {w : World} {ops : Array Oper} {rest : List Oper} {o : Oper} {a : Act} {Q : Exit → Act → World → Prop}
    (hg : o.guard = none) (s x : Operand) (t ty : TypeId) (hop : o.op = Op.call { callee := Callee.builtin Builtin.append, args := #[s, x], argTypes := #[t, t] }) (hty : o.type = ty)
    (v1 v2 : Value) (hs : a.eval s = v1) (hx : a.eval x = v2) {v' : Value} {w' : World} (hrun : (Builtin.append_ #[t, t] ty #[v1, v2]).run P w = .ok v' w')
    (hK : wpList P ops Q rest (a.put o.dst v') w') : wpList P ops Q (o :: rest) a w := by
  refine wpList_plain hg fun K hK' => ?_
  unfold Oper.wp
  simp [execOp, hop, hty, resolve, invoke, builtin, hs, hx, hrun, Result.andThen]
  exact hK' _ _ hK

theorem getD_lt {α : Type} {l : List α} {i : Nat} (d : α) (_u : Unit) (h : i < l.length) : l.getD i d = l[i] := by
  rw [List.getD_eq_getElem?_getD, List.getElem?_eq_getElem h]; rfl

theorem info3' : (Try.prog.info? 3).map (fun i => (i.zero, i.size, i.bytes)) = some (some (.int .i64 0), 1, 8) := by kernel_rfl

theorem ow_new (w : World) (base : Nat) (hb : base ≤ w.heap.size) : Ow (w.alloc (.cells #[] 3)) base (.slice (some ⟨w.heap.size, 0, none⟩) 0 0) [] :=
  ⟨rfl, .inr ⟨w.heap.size, 0, #[], rfl, hb, World.alloc_heap_new w _, Nat.le_refl _, by simp, rfl, rfl⟩⟩

theorem ow_push {w : World} {base : Nat} {v : Value} {xs : List Int} (x : Int) (h : Ow w base v xs) (hb : base ≤ w.heap.size) (hl : xs.length ≤ 1000) :
    ∃ A n c w', (Builtin.append_ #[27, 27] 27 #[v, .slice (some ⟨w.heap.size, 0, none⟩) 1 1]).run Try.prog (w.alloc (.cells #[.int .i64 x] 3)) = .ok (.slice (some A) n c) w' ∧ Ow w' base (.slice (some A) n c) (xs ++ [x]) ∧ Below base w w' := by
  obtain ⟨i0, hi, hz0, hz1, hz2⟩ := info_parts info3'
  have hn2 : ∀ j u, ([.int .i64 x] : List Value)[j]? = some u → (w.alloc (.cells #[.int .i64 x] 3)).cell? ((⟨w.heap.size, 0, none⟩ : Addr).add j) = some u := by
    intro j u hj
    rw [addr_add, Nat.zero_add, World.cell?_alloc_at _ _ _ _ rfl]
    simpa using hj
  obtain ⟨v', w', hrun, r1, r2, r3⟩ := run_append_own (P := Try.prog) (w.alloc (.cells #[.int .i64 x] 3)) base 27 27 3 i0 (.int .i64 0) 1 8 Try.underlying27 hi hz0 hz1 hz2 rfl (by decide) v xs.length (xs.map (Value.int .i64)) (h.alloc _) ⟨w.heap.size, 0, none⟩ 1 1 [.int .i64 x] rfl hn2 (by simp [Value.oneCell']) (by simp [maxLen]; omega) (by omega) (by simp; omega)
  have hB : Below base w w' := ((Below.refl _ w).alloc hb _).grown r2 (by simp; omega) (fun k hk => (h.lt k hk).1)
  have ho : Ow w' base v' (xs ++ [x]) := by unfold Ow; rw [List.length_append, List.map_append]; exact r1
  rcases ho.2 with ⟨_, h0⟩ | ⟨g, cap, cur, rfl, _⟩
  · simp at h0
  · exact ⟨_, _, _, w', hrun, ho, hB⟩

theorem Below.drewN2 {B : Nat} {w w' : World} {n : Nat} (h : Below B w w') : Below B w (w'.drewN n) := below_drewN h _

theorem Ow.len {w : World} {base : Nat} {A : Option Addr} {n c : Nat} {xs : List Int} (h : Ow w base (.slice A n c) xs) : n = xs.length := by
  rcases h.2 with ⟨e, h0⟩ | ⟨g, cap, cur, e, _⟩
  · cases e; exact h0.symm
  · cases e; rfl

theorem Rd.at2 {w : World} {b o : Nat} {xs : List Int} (h : Rd w (some ⟨b, o, none⟩) xs) (k : Nat) (hk : k < xs.length) : w.cell? ⟨b, o + k, none⟩ = some (.int .i64 xs[k]) := by
  obtain ⟨b', o', e, _, hc⟩ := h.at k hk
  cases e; exact hc

/-- A copy with one more: two appends. -/
theorem cp_push {w : World} {L : Option Addr} {nl cl : Nat} {xs : List Int} (x : Int) (hn : nl = xs.length) (hx : Rd w L xs) (hL : L = none → cl = 0 ∧ xs = []) (hl : xs.length ≤ 1000) :
    ∃ v1 w1 A n c w2, (Builtin.append_ #[27, 27] 27 #[.slice (some ⟨w.heap.size, 0, none⟩) 0 0, .slice L nl cl]).run Try.prog (w.alloc (.cells #[] 3)) = .ok v1 w1 ∧
      (Builtin.append_ #[27, 27] 27 #[v1, .slice (some ⟨w1.heap.size, 0, none⟩) 1 1]).run Try.prog (w1.alloc (.cells #[.int .i64 x] 3)) = .ok (.slice (some A) n c) w2 ∧ n = (xs ++ [x]).length ∧ n ≤ c ∧ c ≤ 9223372036854775807 ∧ Rd w2 (some A) (xs ++ [x]) ∧ Below w.heap.size w w2 := by
  obtain ⟨i0, hi, hz0, hz1, hz2⟩ := info_parts info3'
  have h0 := ow_new w w.heap.size (Nat.le_refl _)
  have hb0 : Below w.heap.size w (w.alloc (.cells #[] 3)) := (Below.refl _ _).alloc (Nat.le_refl _) _
  have key : ∃ v1 w1, (Builtin.append_ #[27, 27] 27 #[.slice (some ⟨w.heap.size, 0, none⟩) 0 0, .slice L nl cl]).run Try.prog (w.alloc (.cells #[] 3)) = .ok v1 w1 ∧ Ow w1 w.heap.size v1 xs ∧ Below w.heap.size w w1 := by
    cases L with
    | none =>
      obtain ⟨rfl, rfl⟩ := hL rfl
      subst hn
      exact ⟨_, _, run_append_owned_none _ w.heap.size 27 27 3 i0 1 Try.underlying27 hi _ 0 [] h0, h0, hb0⟩
    | some a =>
      obtain ⟨v', w', hrun, r1, r2, r3⟩ := run_append_own (P := Try.prog) (w.alloc (.cells #[] 3)) w.heap.size 27 27 3 i0 (.int .i64 0) 1 8 Try.underlying27 hi hz0 hz1 hz2 rfl (by decide) _ 0 [] h0 a nl cl (xs.map (Value.int .i64)) (by simp [hn]) (by
        intro j u hj
        rw [List.getElem?_map] at hj
        obtain ⟨y, hy1, hy2⟩ := Option.map_eq_some_iff.1 hj
        obtain ⟨hj1, hj2⟩ := List.getElem?_eq_some_iff.1 hy1
        obtain ⟨b', o', e, hb', hc'⟩ := hx (fun e => by subst e; simp at hj1)
        cases e
        rw [addr_add, hb0.cell (p := ⟨b', o' + j, none⟩) hb', hc' j hj1, hj2, hy2]) (by simp [Value.oneCell']) (by simp [maxLen]; omega) (by omega) (by simp)
      refine ⟨v', w', hrun, ?_, hb0.grown r2 (by simp) (fun k hk => (World.ownsRow.lt h0 k hk).1)⟩
      unfold Ow
      rw [← hn]
      simpa using r1
  obtain ⟨v1, w1, hr1, ho1, hb1⟩ := key
  obtain ⟨A, n, c, w2, hr2, ho2, hb2⟩ := ow_push x ho1 hb1.size hl
  obtain ⟨A', c', e', g1, g2, _, g3⟩ := ho2.sl
  cases e'
  exact ⟨v1, w1, A, _, c, w2, hr1, hr2, rfl, g1, g2, g3, hb1.trans hb2⟩

theorem Sl.parts {w : World} {v : Value} {xs : List Int} (h : Sl w v xs) : ∃ A n c, v = .slice A n c ∧ n = xs.length ∧ n ≤ c ∧ c ≤ 9223372036854775807 ∧ Rd w A xs := by
  obtain ⟨A, c, rfl, h1, h2, _, h3⟩ := h
  exact ⟨A, _, c, rfl, rfl, h1, h2, h3⟩

theorem rd_lit (w : World) (xs : List Int) (b : Nat) (hb : b = w.heap.size) : Rd (w.alloc (.cells (xs.map (Value.int .i64)).toArray 3)) (some ⟨b, 0, none⟩) xs := fun _ => by
  subst hb
  refine ⟨_, 0, rfl, by simp, fun i hi => ?_⟩
  rw [World.cell?_alloc_at _ _ _ _ rfl]
  simp [hi]

theorem rd_of_cells {w : World} {x : Addr} {len : Nat} {zs : List Int} (hc : ∀ i, i < zs.length → w.cell? (x.add i) = some (.int .i64 (zs.getD i 0))) : Rd w (some x) (zs.take len) := by
  intro hne
  have hpos : 0 < zs.length := by
    rcases Nat.eq_zero_or_pos zs.length with h | h
    · rw [List.eq_nil_of_length_eq_zero h] at hne; simp at hne
    · exact h
  obtain ⟨b, off, spot⟩ := x
  have h0 := hc 0 hpos
  have hspot : spot = none := by simpa [Addr.add] using World.cell?_spot h0
  subst hspot
  refine ⟨b, off, rfl, ?_, fun i hi => ?_⟩
  · rw [addr_add] at h0
    exact World.block_lt_of_cell? _ _ h0
  · have hi' : i < zs.length := by rw [List.length_take] at hi; omega
    have := hc i hi'
    rw [addr_add, getD_lt _ () hi'] at this
    rw [this, List.getElem_take]

theorem cp_one {w : World} {L : Option Addr} {nl cl : Nat} {xs : List Int} (hn : nl = xs.length) (hx : Rd w L xs) (hL : L = none → cl = 0 ∧ xs = []) (hl : xs.length ≤ 1000) :
    ∃ A n c w1, (Builtin.append_ #[27, 27] 27 #[.slice (some ⟨w.heap.size, 0, none⟩) 0 0, .slice L nl cl]).run Try.prog (w.alloc (.cells #[] 3)) = .ok (.slice A n c) w1 ∧ n = xs.length ∧ n ≤ c ∧ c ≤ 9223372036854775807 ∧ Rd w1 A xs ∧ Below w.heap.size w w1 := by
  obtain ⟨i0, hi, hz0, hz1, hz2⟩ := info_parts info3'
  have h0 := ow_new w w.heap.size (Nat.le_refl _)
  have hb0 : Below w.heap.size w (w.alloc (.cells #[] 3)) := (Below.refl _ _).alloc (Nat.le_refl _) _
  have key : ∃ v1 w1, (Builtin.append_ #[27, 27] 27 #[.slice (some ⟨w.heap.size, 0, none⟩) 0 0, .slice L nl cl]).run Try.prog (w.alloc (.cells #[] 3)) = .ok v1 w1 ∧ Ow w1 w.heap.size v1 xs ∧ Below w.heap.size w w1 := by
    cases L with
    | none =>
      obtain ⟨rfl, rfl⟩ := hL rfl
      subst hn
      exact ⟨_, _, run_append_owned_none _ w.heap.size 27 27 3 i0 1 Try.underlying27 hi _ 0 [] h0, h0, hb0⟩
    | some a =>
      obtain ⟨v', w', hrun, r1, r2, r3⟩ := run_append_own (P := Try.prog) (w.alloc (.cells #[] 3)) w.heap.size 27 27 3 i0 (.int .i64 0) 1 8 Try.underlying27 hi hz0 hz1 hz2 rfl (by decide) _ 0 [] h0 a nl cl (xs.map (Value.int .i64)) (by simp [hn]) (by
        intro j u hj
        rw [List.getElem?_map] at hj
        obtain ⟨y, hy1, hy2⟩ := Option.map_eq_some_iff.1 hj
        obtain ⟨hj1, hj2⟩ := List.getElem?_eq_some_iff.1 hy1
        obtain ⟨b', o', e, hb', hc'⟩ := hx (fun e => by subst e; simp at hj1)
        cases e
        rw [addr_add, hb0.cell (p := ⟨b', o' + j, none⟩) hb', hc' j hj1, hj2, hy2]) (by simp [Value.oneCell']) (by simp [maxLen]; omega) (by omega) (by simp)
      refine ⟨v', w', hrun, ?_, hb0.grown r2 (by simp) (fun k hk => (World.ownsRow.lt h0 k hk).1)⟩
      unfold Ow
      rw [← hn]
      simpa using r1
  obtain ⟨v1, w1, hr1, ho1, hb1⟩ := key
  obtain ⟨A, n, c, rfl, g1, g2, g3, g4⟩ := ho1.sl.parts
  exact ⟨A, n, c, w1, hr1, g1, g2, g3, g4, hb1⟩

theorem rd_one (w : World) (x : Int) (b : Nat) (hb : b = w.heap.size) : Rd (w.alloc (.cells #[.int .i64 x] 3)) (some ⟨b, 0, none⟩) [x] := fun _ => by
  subst hb
  refine ⟨_, 0, rfl, by simp, fun i hi => ?_⟩
  have : i = 0 := by simpa using hi
  subst this
  rw [World.cell?_alloc_at _ _ _ _ rfl]; rfl

def OptSl (w : World) (v : Value) : Option (List Int) → Prop
  | none => v = .slice none 0 0
  | some r => (∃ a n c, v = .slice (some a) n c) ∧ Sl w v r

theorem OptSl.below {w w' : World} {v : Value} {r : Option (List Int)} (h : OptSl w v r) (hb : Below w.heap.size w w') : OptSl w' v r := by
  cases r with
  | none => exact h
  | some r => exact ⟨h.1, h.2.below hb⟩

end Go.Proofs.Ythnhmfmlhlpggaa
