/- What is proved: words for slices of integers (ported from the paint seat of this hand). No condition beyond those in each statement. -/
import Derived.Test.YtahjgdikjaakbaaProg
import Derived.WalkKit
import Derived.WalkSpells
import Derived.WalkLawsBesides
import Derived.Deep.QuietTactic
import Derived.BigQuiet
import Derived.Lib.Hide
import Derived.Deep.LoopGhost
import Derived.RangeFuncRecord
import Derived.BigRegion
namespace Go.Proofs.Ytahjgdikjaakbaa
open Go.RowKit

/-- What a slice's address reads as: the cells of its elements. -/
def Rd (w : World) (A : Option Addr) (xs : List Int) : Prop :=
  xs ≠ [] → ∃ b o, A = some ⟨b, o, none⟩ ∧ b < w.heap.size ∧ ∀ i (hi : i < xs.length), w.cell? ⟨b, o + i, none⟩ = some (.int .i64 xs[i])

theorem Rd.below {w w' : World} {A : Option Addr} {xs : List Int} (h : Rd w A xs) (hb : Below w.heap.size w w') : Rd w' A xs := fun hne => by
  obtain ⟨b, o, e, hlt, hc⟩ := h hne
  exact ⟨b, o, e, Nat.lt_of_lt_of_le hlt hb.size, fun i hi => (hb.cell (p := ⟨b, o + i, none⟩) hlt).trans (hc i hi)⟩

theorem Rd.at {w : World} {A : Option Addr} {xs : List Int} (h : Rd w A xs) (i : Nat) (hi : i < xs.length) :
    ∃ b o, A = some ⟨b, o, none⟩ ∧ b < w.heap.size ∧ w.cell? ⟨b, o + i, none⟩ = some (.int .i64 xs[i]) := by
  obtain ⟨b, o, e, hlt, hc⟩ := h (fun e => by subst e; simp at hi)
  exact ⟨b, o, e, hlt, hc i hi⟩

/-- A slice value that reads as a list of ints. -/
def Sl (w : World) (v : Value) (xs : List Int) : Prop := ∃ A c, v = .slice A xs.length c ∧ xs.length ≤ c ∧ c ≤ 9223372036854775807 ∧ (A = none → c = 0) ∧ Rd w A xs

theorem Sl.below {w w' : World} {v : Value} {xs : List Int} (h : Sl w v xs) (hb : Below w.heap.size w w') : Sl w' v xs := by
  obtain ⟨A, c, e, h1, h2, h3, h4⟩ := h
  exact ⟨A, c, e, h1, h2, h3, h4.below hb⟩

/-- A slice value whose row the call itself has made (block numbers from base on). -/
def Ow (w : World) (base : Nat) (v : Value) (xs : List Int) : Prop := w.ownsRow base 3 1 v xs.length (xs.map (Value.int .i64))

theorem addr_add (b o j : Nat) : (⟨b, o, none⟩ : Addr).add j = ⟨b, o + j, none⟩ := by unfold Addr.add; split <;> simp_all

theorem Ow.sl {w : World} {base : Nat} {v : Value} {xs : List Int} (h : Ow w base v xs) : Sl w v xs := by
  have h' := h
  rcases h with ⟨hl, ⟨rfl, hn⟩ | ⟨g, cap, cur, rfl, hb, hg, h1, h2, h3, h4⟩⟩
  · have : xs = [] := List.eq_nil_of_length_eq_zero hn
    subst this
    exact ⟨none, 0, rfl, Nat.le_refl _, by omega, fun _ => rfl, fun h => absurd rfl h⟩
  · refine ⟨some ⟨g, 0, none⟩, cap, rfl, h1, by simpa [maxLen] using h2, fun h => (by cases h), fun _ => ⟨g, 0, rfl, (Array.getElem?_eq_some_iff.1 hg).1, fun i hi => ?_⟩⟩
    have := World.ownsRow.cells h' (g := g) rfl i (.int .i64 xs[i]) (by simp [hi])
    rwa [addr_add] at this

theorem Ow.below {w w' : World} {base : Nat} {v : Value} {xs : List Int} (h : Ow w base v xs) (hb : Below w.heap.size w w') : Ow w' base v xs := by
  refine World.ownsRow.kept h (row := none) ⟨hb.os, hb.tape, hb.output, hb.size, fun k hk _ => hb.block k hk⟩ ?_
  cases v.ownBlock <;> simp

theorem info3 : (Try.prog.info? 3).map (fun i => (i.zero, i.size, i.bytes)) = some (some (.int .i64 0), 1, 8) := by kernel_rfl

theorem any_take_succ {p : Int → Bool} {xs : List Int} {k : Nat} (hk : k < xs.length) (h : (xs.take k).any p = false) (h' : p xs[k] = false) : (xs.take (k + 1)).any p = false := by
  rw [List.take_succ_eq_append_getElem hk, List.any_append, h]; simp [h']

theorem any_at {p : Int → Bool} {xs : List Int} {k : Nat} (hk : k < xs.length) (h : p xs[k] = true) : xs.any p = true := by
  rw [List.any_eq_true]; exact ⟨xs[k], List.getElem_mem hk, h⟩

theorem ret_bool {a b : Bool} (h : a = b) : Ending.returned (.bool a) = .returned (.bool b) := by rw [h]

theorem ret_int {k : IntKind} {a b : Int} (h : a = b) : Ending.returned (.int k a) = .returned (.int k b) := by rw [h]

theorem wpList_app {P : Program} {w : World} {ops : Array Oper} {rest : List Oper} {o : Oper} {a : Act} {Q : Exit → Act → World → Prop}
    (hg : o.guard = none) (s x : Operand) (t ty : TypeId) (hop : o.op = Op.call { callee := Callee.builtin Builtin.append, args := #[s, x], argTypes := #[t, t] }) (hty : o.type = ty)
    (v1 v2 : Value) (hs : a.eval s = v1) (hx : a.eval x = v2) {v' : Value} {w' : World} (hrun : (Builtin.append_ #[t, t] ty #[v1, v2]).run P w = .ok v' w')
    (hK : wpList P ops Q rest (a.put o.dst v') w') : wpList P ops Q (o :: rest) a w := by
  refine wpList_plain hg fun K hK' => ?_
  unfold Oper.wp
  simp [execOp, hop, hty, resolve, invoke, builtin, hs, hx, hrun, Result.andThen]
  exact hK' _ _ hK

theorem getD_lt {α : Type} {l : List α} {i : Nat} (d : α) (_u : Unit) (h : i < l.length) : l.getD i d = l[i] := by
  rw [List.getD_eq_getElem?_getD, List.getElem?_eq_getElem h]; rfl

theorem info3' : (Try.prog.info? 3).map (fun i => (i.zero, i.size, i.bytes)) = some (some (.int .i64 0), 1, 8) := by kernel_rfl

theorem ow_new (w : World) (base : Nat) (hb : base ≤ w.heap.size) : Ow (w.alloc (.cells #[] 3)) base (.slice (some ⟨w.heap.size, 0, none⟩) 0 0) [] :=
  ⟨rfl, .inr ⟨w.heap.size, 0, #[], rfl, hb, World.alloc_heap_new w _, Nat.le_refl _, by simp, rfl, rfl⟩⟩

theorem ow_push {w : World} {base : Nat} {v : Value} {xs : List Int} (x : Int) (h : Ow w base v xs) (hb : base ≤ w.heap.size) (hl : xs.length ≤ 1000) :
    ∃ A n c w', (Builtin.append_ #[36, 36] 36 #[v, .slice (some ⟨w.heap.size, 0, none⟩) 1 1]).run Try.prog (w.alloc (.cells #[.int .i64 x] 3)) = .ok (.slice (some A) n c) w' ∧ Ow w' base (.slice (some A) n c) (xs ++ [x]) ∧ Below base w w' := by
  obtain ⟨i0, hi, hz0, hz1, hz2⟩ := info_parts info3'
  have hn2 : ∀ j u, ([.int .i64 x] : List Value)[j]? = some u → (w.alloc (.cells #[.int .i64 x] 3)).cell? ((⟨w.heap.size, 0, none⟩ : Addr).add j) = some u := by
    intro j u hj
    rw [addr_add, Nat.zero_add, World.cell?_alloc_at _ _ _ _ rfl]
    simpa using hj
  obtain ⟨v', w', hrun, r1, r2, r3⟩ := run_append_own (P := Try.prog) (w.alloc (.cells #[.int .i64 x] 3)) base 36 36 3 i0 (.int .i64 0) 1 8 Try.underlying36 hi hz0 hz1 hz2 rfl (by decide) v xs.length (xs.map (Value.int .i64)) (h.alloc _) ⟨w.heap.size, 0, none⟩ 1 1 [.int .i64 x] rfl hn2 (by simp [Value.oneCell']) (by simp [maxLen]; omega) (by omega) (by simp; omega)
  have hB : Below base w w' := ((Below.refl _ w).alloc hb _).grown r2 (by simp; omega) (fun k hk => (h.lt k hk).1)
  have ho : Ow w' base v' (xs ++ [x]) := by unfold Ow; rw [List.length_append, List.map_append]; exact r1
  rcases ho.2 with ⟨_, h0⟩ | ⟨g, cap, cur, rfl, _⟩
  · simp at h0
  · exact ⟨_, _, _, w', hrun, ho, hB⟩

theorem Below.drewN2 {B : Nat} {w w' : World} {n : Nat} (h : Below B w w') : Below B w (w'.drewN n) := below_drewN h _

theorem Ow.len {w : World} {base : Nat} {A : Option Addr} {n c : Nat} {xs : List Int} (h : Ow w base (.slice A n c) xs) : n = xs.length := by
  rcases h.2 with ⟨e, h0⟩ | ⟨g, cap, cur, e, _⟩
  · cases e; exact h0.symm
  · cases e; rfl

theorem Rd.at2 {w : World} {b o : Nat} {xs : List Int} (h : Rd w (some ⟨b, o, none⟩) xs) (k : Nat) (hk : k < xs.length) : w.cell? ⟨b, o + k, none⟩ = some (.int .i64 xs[k]) := by
  obtain ⟨b', o', e, _, hc⟩ := h.at k hk
  cases e; exact hc

/-- A copy with one more: two appends. -/
theorem cp_push {w : World} {L : Option Addr} {nl cl : Nat} {xs : List Int} (x : Int) (hn : nl = xs.length) (hx : Rd w L xs) (hL : L = none → cl = 0 ∧ xs = []) (hl : xs.length ≤ 1000) :
    ∃ v1 w1 A n c w2, (Builtin.append_ #[36, 36] 36 #[.slice (some ⟨w.heap.size, 0, none⟩) 0 0, .slice L nl cl]).run Try.prog (w.alloc (.cells #[] 3)) = .ok v1 w1 ∧
      (Builtin.append_ #[36, 36] 36 #[v1, .slice (some ⟨w1.heap.size, 0, none⟩) 1 1]).run Try.prog (w1.alloc (.cells #[.int .i64 x] 3)) = .ok (.slice (some A) n c) w2 ∧ n = (xs ++ [x]).length ∧ n ≤ c ∧ c ≤ 9223372036854775807 ∧ Rd w2 (some A) (xs ++ [x]) ∧ Below w.heap.size w w2 := by
  obtain ⟨i0, hi, hz0, hz1, hz2⟩ := info_parts info3'
  have h0 := ow_new w w.heap.size (Nat.le_refl _)
  have hb0 : Below w.heap.size w (w.alloc (.cells #[] 3)) := (Below.refl _ _).alloc (Nat.le_refl _) _
  have key : ∃ v1 w1, (Builtin.append_ #[36, 36] 36 #[.slice (some ⟨w.heap.size, 0, none⟩) 0 0, .slice L nl cl]).run Try.prog (w.alloc (.cells #[] 3)) = .ok v1 w1 ∧ Ow w1 w.heap.size v1 xs ∧ Below w.heap.size w w1 := by
    cases L with
    | none =>
      obtain ⟨rfl, rfl⟩ := hL rfl
      subst hn
      exact ⟨_, _, run_append_owned_none _ w.heap.size 36 36 3 i0 1 Try.underlying36 hi _ 0 [] h0, h0, hb0⟩
    | some a =>
      obtain ⟨v', w', hrun, r1, r2, r3⟩ := run_append_own (P := Try.prog) (w.alloc (.cells #[] 3)) w.heap.size 36 36 3 i0 (.int .i64 0) 1 8 Try.underlying36 hi hz0 hz1 hz2 rfl (by decide) _ 0 [] h0 a nl cl (xs.map (Value.int .i64)) (by simp [hn]) (by
        intro j u hj
        rw [List.getElem?_map] at hj
        obtain ⟨y, hy1, hy2⟩ := Option.map_eq_some_iff.1 hj
        obtain ⟨hj1, hj2⟩ := List.getElem?_eq_some_iff.1 hy1
        obtain ⟨b', o', e, hb', hc'⟩ := hx (fun e => by subst e; simp at hj1)
        cases e
        rw [addr_add, hb0.cell (p := ⟨b', o' + j, none⟩) hb', hc' j hj1, hj2, hy2]) (by simp [Value.oneCell']) (by simp [maxLen]; omega) (by omega) (by simp)
      refine ⟨v', w', hrun, ?_, hb0.grown r2 (by simp) (fun k hk => (World.ownsRow.lt h0 k hk).1)⟩
      unfold Ow
      rw [← hn]
      simpa using r1
  obtain ⟨v1, w1, hr1, ho1, hb1⟩ := key
  obtain ⟨A, n, c, w2, hr2, ho2, hb2⟩ := ow_push x ho1 hb1.size hl
  obtain ⟨A', c', e', g1, g2, _, g3⟩ := ho2.sl
  cases e'
  exact ⟨v1, w1, A, _, c, w2, hr1, hr2, rfl, g1, g2, g3, hb1.trans hb2⟩

theorem Sl.parts {w : World} {v : Value} {xs : List Int} (h : Sl w v xs) : ∃ A n c, v = .slice A n c ∧ n = xs.length ∧ n ≤ c ∧ c ≤ 9223372036854775807 ∧ Rd w A xs := by
  obtain ⟨A, c, rfl, h1, h2, _, h3⟩ := h
  exact ⟨A, _, c, rfl, rfl, h1, h2, h3⟩

theorem rd_lit (w : World) (xs : List Int) (b : Nat) (hb : b = w.heap.size) : Rd (w.alloc (.cells (xs.map (Value.int .i64)).toArray 3)) (some ⟨b, 0, none⟩) xs := fun _ => by
  subst hb
  refine ⟨_, 0, rfl, by simp, fun i hi => ?_⟩
  rw [World.cell?_alloc_at _ _ _ _ rfl]
  simp [hi]

theorem rd_of_cells {w : World} {x : Addr} {len : Nat} {zs : List Int} (hc : ∀ i, i < zs.length → w.cell? (x.add i) = some (.int .i64 (zs.getD i 0))) : Rd w (some x) (zs.take len) := by
  intro hne
  have hpos : 0 < zs.length := by
    rcases Nat.eq_zero_or_pos zs.length with h | h
    · rw [List.eq_nil_of_length_eq_zero h] at hne; simp at hne
    · exact h
  obtain ⟨b, off, spot⟩ := x
  have h0 := hc 0 hpos
  have hspot : spot = none := by simpa [Addr.add] using World.cell?_spot h0
  subst hspot
  refine ⟨b, off, rfl, ?_, fun i hi => ?_⟩
  · rw [addr_add] at h0
    exact World.block_lt_of_cell? _ _ h0
  · have hi' : i < zs.length := by rw [List.length_take] at hi; omega
    have := hc i hi'
    rw [addr_add, getD_lt _ () hi'] at this
    rw [this, List.getElem_take]

theorem cp_one {w : World} {L : Option Addr} {nl cl : Nat} {xs : List Int} (hn : nl = xs.length) (hx : Rd w L xs) (hL : L = none → cl = 0 ∧ xs = []) (hl : xs.length ≤ 1000) :
    ∃ A n c w1, (Builtin.append_ #[36, 36] 36 #[.slice (some ⟨w.heap.size, 0, none⟩) 0 0, .slice L nl cl]).run Try.prog (w.alloc (.cells #[] 3)) = .ok (.slice A n c) w1 ∧ n = xs.length ∧ n ≤ c ∧ c ≤ 9223372036854775807 ∧ Rd w1 A xs ∧ Below w.heap.size w w1 := by
  obtain ⟨i0, hi, hz0, hz1, hz2⟩ := info_parts info3'
  have h0 := ow_new w w.heap.size (Nat.le_refl _)
  have hb0 : Below w.heap.size w (w.alloc (.cells #[] 3)) := (Below.refl _ _).alloc (Nat.le_refl _) _
  have key : ∃ v1 w1, (Builtin.append_ #[36, 36] 36 #[.slice (some ⟨w.heap.size, 0, none⟩) 0 0, .slice L nl cl]).run Try.prog (w.alloc (.cells #[] 3)) = .ok v1 w1 ∧ Ow w1 w.heap.size v1 xs ∧ Below w.heap.size w w1 := by
    cases L with
    | none =>
      obtain ⟨rfl, rfl⟩ := hL rfl
      subst hn
      exact ⟨_, _, run_append_owned_none _ w.heap.size 36 36 3 i0 1 Try.underlying36 hi _ 0 [] h0, h0, hb0⟩
    | some a =>
      obtain ⟨v', w', hrun, r1, r2, r3⟩ := run_append_own (P := Try.prog) (w.alloc (.cells #[] 3)) w.heap.size 36 36 3 i0 (.int .i64 0) 1 8 Try.underlying36 hi hz0 hz1 hz2 rfl (by decide) _ 0 [] h0 a nl cl (xs.map (Value.int .i64)) (by simp [hn]) (by
        intro j u hj
        rw [List.getElem?_map] at hj
        obtain ⟨y, hy1, hy2⟩ := Option.map_eq_some_iff.1 hj
        obtain ⟨hj1, hj2⟩ := List.getElem?_eq_some_iff.1 hy1
        obtain ⟨b', o', e, hb', hc'⟩ := hx (fun e => by subst e; simp at hj1)
        cases e
        rw [addr_add, hb0.cell (p := ⟨b', o' + j, none⟩) hb', hc' j hj1, hj2, hy2]) (by simp [Value.oneCell']) (by simp [maxLen]; omega) (by omega) (by simp)
      refine ⟨v', w', hrun, ?_, hb0.grown r2 (by simp) (fun k hk => (World.ownsRow.lt h0 k hk).1)⟩
      unfold Ow
      rw [← hn]
      simpa using r1
  obtain ⟨v1, w1, hr1, ho1, hb1⟩ := key
  obtain ⟨A, n, c, rfl, g1, g2, g3, g4⟩ := ho1.sl.parts
  exact ⟨A, n, c, w1, hr1, g1, g2, g3, g4, hb1⟩

theorem rd_one (w : World) (x : Int) (b : Nat) (hb : b = w.heap.size) : Rd (w.alloc (.cells #[.int .i64 x] 3)) (some ⟨b, 0, none⟩) [x] := fun _ => by
  subst hb
  refine ⟨_, 0, rfl, by simp, fun i hi => ?_⟩
  have : i = 0 := by simpa using hi
  subst this
  rw [World.cell?_alloc_at _ _ _ _ rfl]; rfl

def OptSl (w : World) (v : Value) : Option (List Int) → Prop
  | none => v = .slice none 0 0
  | some r => (∃ a n c, v = .slice (some a) n c) ∧ Sl w v r

theorem OptSl.below {w w' : World} {v : Value} {r : Option (List Int)} (h : OptSl w v r) (hb : Below w.heap.size w w') : OptSl w' v r := by
  cases r with
  | none => exact h
  | some r => exact ⟨h.1, h.2.below hb⟩

end Go.Proofs.Ytahjgdikjaakbaa

namespace Go.Proofs.Ytahjgdikjaakbaa
open Go.RowKit

def inB (v lo hi : Int) : Bool := decide (lo ≤ v) && decide (v ≤ hi)

theorem in_calls (v lo hi : Int) (w : World) : Calls Try.prog 19 #[.int .i64 v, .int .i64 lo, .int .i64 hi] w fun e w' => e = .returned (.bool (inB v lo hi)) ∧ w = w' := by
  by_cases h : lo ≤ v
  · have HD : Hid (decide (lo ≤ v) = true) := decide_eq_true h
    go_enter Try.func19, Try.ntmps19
    go_wp2_with fail
    go_ret
    exact ⟨ret_bool (by unfold inB; rw [HD.out]; rfl), rfl⟩
  · have HD : Hid (decide (lo ≤ v) = false) := decide_eq_false h
    go_enter Try.func19, Try.ntmps19
    go_wp2_with fail
    go_ret
    exact ⟨ret_bool (by unfold inB; rw [HD.out]; rfl), rfl⟩

def beforeF : List Int → List Int → Bool
  | [], [] => false
  | [], _ :: _ => true
  | _ :: _, [] => false
  | a :: s, b :: t => if a != b then decide (a < b) else beforeF s t

theorem beforeF_same : ∀ xs ys, (!beforeF xs ys && !beforeF ys xs) = decide (xs = ys)
  | [], [] => rfl
  | [], _ :: _ => by simp [beforeF]
  | _ :: _, [] => by simp [beforeF]
  | a :: s, b :: t => by
    unfold beforeF
    by_cases h : a = b
    · subst h
      simpa using beforeF_same s t
    · have h' : ¬ b = a := fun e => h e.symm
      simp [h, h']
      omega

theorem beforeF_nil (ys : List Int) : beforeF [] ys = decide (0 < ys.length) := by cases ys <;> rfl

theorem beforeF_nil' (xs : List Int) : beforeF xs [] = false := by cases xs <;> rfl

theorem before_calls (A B : Option Addr) (n c m d : Nat) (xs ys : List Int) (w : World) (hn : n = xs.length) (hA : Rd w A xs) (hl : n ≤ c) (hc : c ≤ 9223372036854775807) (hm : m = ys.length) (hB : Rd w B ys) (_hl2 : m ≤ d) (_hd : d ≤ 9223372036854775807) :
    Calls Try.prog 59 #[.slice A n c, .slice B m d] w fun e w' => e = .returned (.bool (beforeF xs ys)) ∧ Below w.heap.size w w' := by
  have HN := Lib.hid hn
  have HA := Lib.hid hA
  have HM := Lib.hid hm
  have HB := Lib.hid hB
  clear hn hA hm hB
  go_enter Try.func59, Try.ntmps59
  go_wp2_with fail
  go_loopw [5] (fun v wr => ∃ i : Nat, v = .int .i64 i ∧ i ≤ n ∧ i ≤ m ∧ Hid (beforeF xs ys = beforeF (xs.drop i) (ys.drop i)) ∧ Hid (Below w.heap.size w wr)) (fun v _ => n - (intOf v).toNat)
  case atStart => exact ⟨0, rfl, Nat.zero_le _, Nat.zero_le _, rfl, Below.refl _ _⟩
  case round =>
    obtain ⟨i, rfl, hi, hi2, HG, HW⟩ := hrel
    by_cases hlt : i < n
    · by_cases hlt2 : i < m
      · have hil : i < xs.length := by have := HN.out; omega
        have hjl : i < ys.length := by have := HM.out; omega
        obtain ⟨b, o, rfl, hb, hcell⟩ := HA.out.at i hil
        obtain ⟨b2, o2, rfl, hb2, hcell2⟩ := HB.out.at i hjl
        have d1 := (HW.out.cell (p := ⟨b, o + i, none⟩) hb).trans hcell
        have d2 := (HW.out.cell (p := ⟨b2, o2 + i, none⟩) hb2).trans hcell2
        clear hcell hcell2
        have HG2 : Hid (beforeF xs ys = if xs[i] != ys[i] then decide (xs[i] < ys[i]) else beforeF (xs.drop (i + 1)) (ys.drop (i + 1))) := by
          have := HG.out
          rw [List.drop_eq_getElem_cons hil, List.drop_eq_getElem_cons hjl] at this
          rw [this]; rfl
        obtain ⟨x, hx⟩ : ∃ x, x = xs[i] := ⟨_, rfl⟩
        obtain ⟨y, hy⟩ : ∃ x, x = ys[i] := ⟨_, rfl⟩
        rw [← hx] at d1 HG2
        rw [← hy] at d2 HG2
        clear hx hy
        have b1 : (0 : Int) ≤ i ∧ (i : Int) < n := by omega
        have b2' : (0 : Int) ≤ i ∧ (i : Int) < m := by omega
        cases q : (x != y)
        rotate_left
        · have HQ := Lib.hid q
          go_wp2_with fail
          go_quiet (fail)
          clear q
          go_wp2_with fail
          go_quiet (fail)
          go_wp2_with fail
          go_ret
          exact ⟨ret_bool (by rw [HG2.out, HQ.out]; rfl), below_drewN (below_drewN HW.out _) _⟩
        · have HQ := Lib.hid q
          go_wp2_with fail
          go_quiet (fail)
          clear q
          go_wp2_with fail
          go_roundw
          case rel => exact ⟨i + 1, by go_num, by omega, by omega, by show _ = _; rw [HG2.out, HQ.out]; rfl, below_drewN HW.out _⟩
          case measure => simp [intOf]; omega
      · have HR : Hid (beforeF xs ys = false) := by
          have := HG.out
          rw [show i = ys.length by have := HM.out; omega, List.drop_length, beforeF_nil'] at this; exact this
        have hle : ¬ n < m := by omega
        go_wp2_with fail
        go_ret
        exact ⟨ret_bool (by rw [HR.out]), HW.out⟩
    · have HR : Hid (beforeF xs ys = decide (n < m)) := by
        have := HG.out
        rw [show i = xs.length by have := HN.out; omega, List.drop_length, beforeF_nil, List.length_drop] at this
        rw [show _ = _ from this]
        have := HN.out
        have := HM.out
        exact decide_eq_decide.2 (by omega)
      go_wp2_with fail
      go_ret
      exact ⟨ret_bool (by rw [HR.out]), HW.out⟩

theorem same_calls (A B : Option Addr) (n c m d : Nat) (xs ys : List Int) (w : World) (hn : n = xs.length) (hA : Rd w A xs) (hl : n ≤ c) (hc : c ≤ 9223372036854775807) (hm : m = ys.length) (hB : Rd w B ys) (hl2 : m ≤ d) (hd : d ≤ 9223372036854775807) :
    Calls Try.prog 40 #[.slice A n c, .slice B m d] w fun e w' => e = .returned (.bool (decide (xs = ys))) ∧ Below w.heap.size w w' := by
  have C1 := Lib.hid (before_calls A B n c m d xs ys w hn hA hl hc hm hB hl2 hd)
  have C2 := Lib.hid (fun (w1 : World) (h : Below w.heap.size w w1) => before_calls B A m d n c ys xs w1 hm (hB.below h) hl2 hd hn (hA.below h) hl hc)
  have HS := Lib.hid (beforeF_same xs ys)
  clear hn hA hm hB
  go_enter Try.func40, Try.ntmps40
  go_wp2_with fail
  refine C1.out.mono ?_
  rintro e w1 ⟨rfl, hB1⟩
  have HB1 := Lib.hid hB1
  clear hB1
  cases h : beforeF xs ys
  · have HH := Lib.hid h
    clear h
    go_wp2_with fail
    refine (C2.out _ HB1.out).mono ?_
    rintro e w2 ⟨rfl, hB2⟩
    have HB2 := Lib.hid hB2
    clear hB2
    go_wp2_with fail
    go_ret
    exact ⟨ret_bool (by rw [← HS.out, HH.out]; rfl), HB1.out.trans (HB2.out.mono HB1.out.size)⟩
  · have HH := Lib.hid h
    clear h
    go_wp2_with fail
    go_ret
    exact ⟨ret_bool (by rw [← HS.out, HH.out]; rfl), HB1.out⟩

end Go.Proofs.Ytahjgdikjaakbaa

namespace Go.Proofs.Ytahjgdikjaakbaa
open Go.RowKit

theorem Rd.take {w : World} {A : Option Addr} {xs : List Int} (h : Rd w A xs) (k : Nat) : Rd w A (xs.take k) := fun hne => by
  obtain ⟨b, o, e, hb, hcl⟩ := h (fun h => by subst h; simp at hne)
  exact ⟨b, o, e, hb, fun i hi => by
    have hi' : i < xs.length := by rw [List.length_take] at hi; omega
    rw [hcl i hi', List.getElem_take]⟩

theorem has_calls (A : Option Addr) (n c : Nat) (xs : List Int) (v : Int) (w : World) (hn : n = xs.length) (hA : Rd w A xs) (hl : n ≤ c) (hc : c ≤ 9223372036854775807) :
    Calls Try.prog 20 #[.slice A n c, .int .i64 v] w fun e w' => e = .returned (.bool (xs.any fun u => u == v)) ∧ w = w' := by
  have HN := Lib.hid hn
  have HA := Lib.hid hA
  clear hn hA
  have hnn : (n : Int) ≤ 9223372036854775807 := by omega
  go_enter Try.func20, Try.ntmps20
  go_wp2_with fail
  go_loop [5] (fun q => ∃ i : Nat, q = .int .i64 i ∧ i ≤ n ∧ Hid (((xs.take i).any fun u => u == v) = false)) (fun q => n - (intOf q).toNat)
  case atStart => exact ⟨0, rfl, Nat.zero_le _, rfl⟩
  case round =>
    obtain ⟨i, rfl, hi, HG⟩ := hrel
    by_cases hlt : i < n
    · have hil : i < xs.length := by have := HN.out; omega
      obtain ⟨b, o, rfl, hb, hcell⟩ := HA.out.at i hil
      cases q : (xs[i]'hil == v)
      · have HQ := Lib.hid q
        go_wp2_with fail
        go_round
        case rel => exact ⟨i + 1, by go_num, by omega, any_take_succ (p := fun u => u == v) hil HG.out HQ.out⟩
        case measure => simp [intOf]; omega
      · have HQ := Lib.hid q
        go_wp2_with fail
        go_ret
        exact ⟨ret_bool (any_at (p := fun u => u == v) hil HQ.out).symm, rfl⟩
    · have HE : Hid ((xs.any fun u => u == v) = false) := by have := HG.out; rwa [show i = xs.length by have := HN.out; omega, List.take_length] at this
      go_wp2_with fail
      go_ret
      exact ⟨ret_bool HE.out.symm, rfl⟩

end Go.Proofs.Ytahjgdikjaakbaa
