/- What is proved: how arrays of two bytes, slices of bytes and of acts that came in are read. No condition beyond those in each statement. -/
import Derived.Test.YtahjgdikjaakbaaRows
import Derived.Test.YtahjgdikjaakbaaC
import Derived.WalkKit
import Derived.ProofKit
import Derived.OpenShut
import Derived.Laws.IdiomArrays
import Derived.ChangeOld
import Derived.ChangeSame
import Derived.Deep.Strs
namespace Go.Proofs.Ytahjgdikjaakbaa
open Go.ChangeShapes Go.WideShapes Go.ChangeAt Go.RowKit

theorem cells5 : Try.prog.cellsOf 5 = 1 := by kernel_rfl
theorem cells3 : Try.prog.cellsOf 3 = 1 := by kernel_rfl
theorem cells22 : Try.prog.cellsOf 22 = 2 := by kernel_rfl
theorem list2 {α : Type} (l : List α) (h : l.length = 2) : ∃ a b, l = [a, b] := by
  match l, h with
  | [a, b], _ => exact ⟨a, b, rfl⟩
theorem u8_in {x : Int} (h : (Lit.int .u8 x).wf = true) : 0 ≤ x ∧ x ≤ 255 := by
  simp [Lit.wf, IntKind.min, IntKind.max, IntKind.signed, IntKind.bits] at h
  omega

variable {H : Type} {enc : TypeId × Value → H} {w : World} {base : Nat} {spare : Nat → Bool} {held : Bool}
theorem trod_arr2 {P : Program} {t e : TypeId} {fuel : Nat} {c0 c1 : Value} {x : DataW H × List MemPlace} (ht : P.underlying t = some (.array 2 e)) (hce : P.cellsOf e = 1)
    (h : DataW.trod enc P w base spare held fuel t [c0, c1] = some x) :
    ∃ y0 y1 n, x = (.agg [y0.1, y1.1], y0.2 ++ y1.2) ∧ DataW.trod enc P w base spare held n e [c0] = some y0 ∧ DataW.trod enc P w base spare held n e [c1] = some y1 := by
  cases fuel with
  | zero => simp [DataW.trod] at h
  | succ n =>
    unfold DataW.trod at h
    rw [ht] at h
    have r2 : List.range 2 = [0, 1] := rfl
    simp [r2, hce] at h
    obtain ⟨_, h⟩ := h
    cases h0 : DataW.trod enc P w base spare held n e [c0] with
    | none => simp [h0] at h
    | some y0 =>
      cases h1 : DataW.trod enc P w base spare held n e [c1] with
      | none => simp [h0, h1] at h
      | some y1 =>
        simp [h0, h1] at h
        exact ⟨y0, y1, n, h.symm, h0, h1⟩

/-- A list from its places. -/
theorem list_of {α : Type} (p : Nat → α → Prop) : ∀ n : Nat, (∀ i, i < n → ∃ a, p i a) → ∃ l : List α, l.length = n ∧ ∀ i (hi : i < l.length), p i l[i]
  | 0, _ => ⟨[], rfl, fun i hi => absurd hi (by simp)⟩
  | n + 1, h => by
    obtain ⟨l, hl, hp⟩ := list_of p n (fun i hi => h i (by omega))
    obtain ⟨a, ha⟩ := h n (by omega)
    refine ⟨l ++ [a], by simp [hl], fun i hi => ?_⟩
    by_cases hc : i < l.length
    · rw [List.getElem_append_left hc]; exact hp i hc
    · have : i = n := by simp at hi; omega
      subst this
      rw [List.getElem_append_right (by omega)]
      simpa using ha

def RdU (w : World) (A : Option Addr) (bs : List Int) : Prop :=
  bs ≠ [] → ∃ b o, A = some ⟨b, o, none⟩ ∧ b < w.heap.size ∧ ∀ i (hi : i < bs.length), w.cell? ⟨b, o + i, none⟩ = some (.int .u8 bs[i])
theorem RdU.below {w w' : World} {A : Option Addr} {xs : List Int} (h : RdU w A xs) (hb : Below w.heap.size w w') : RdU w' A xs := fun hne => by
  obtain ⟨b, o, e, hlt, hc⟩ := h hne
  exact ⟨b, o, e, Nat.lt_of_lt_of_le hlt hb.size, fun i hi => (hb.cell (p := ⟨b, o + i, none⟩) hlt).trans (hc i hi)⟩
theorem RdU.at {w : World} {A : Option Addr} {xs : List Int} (h : RdU w A xs) (i : Nat) (hi : i < xs.length) :
    ∃ b o, A = some ⟨b, o, none⟩ ∧ b < w.heap.size ∧ w.cell? ⟨b, o + i, none⟩ = some (.int .u8 xs[i]) := by
  obtain ⟨b, o, e, hlt, hc⟩ := h (fun e => by subst e; simp at hi)
  exact ⟨b, o, e, hlt, hc i hi⟩

theorem rdU_of_cells {w : World} {x : Addr} {len : Nat} {zs : List Int} (hc : ∀ i, i < zs.length → w.cell? (x.add i) = some (.int .u8 (zs.getD i 0))) : RdU w (some x) (zs.take len) := by
  intro hne
  have hpos : 0 < zs.length := by
    rcases Nat.eq_zero_or_pos zs.length with h | h
    · rw [List.eq_nil_of_length_eq_zero h] at hne; simp at hne
    · exact h
  obtain ⟨b, off, spot⟩ := x
  have h0 := hc 0 hpos
  have hspot : spot = none := by simpa [Addr.add] using World.cell?_spot h0
  subst hspot
  refine ⟨b, off, rfl, ?_, fun i hi => ?_⟩
  · rw [addr_add] at h0
    exact World.block_lt_of_cell? _ _ h0
  · have hi' : i < zs.length := by rw [List.length_take] at hi; omega
    have := hc i hi'
    rw [addr_add, getD_lt _ () hi'] at this
    rw [this, List.getElem_take]
theorem open_bytes {fuel : Nat} {a : Option Addr} {len cap : Nat} {x : DataW H × List MemPlace}
    (h : DataW.trod enc Try.prog w base spare held fuel 23 [.slice a len cap] = some x) :
    ∃ bs : List Int, len = bs.length ∧ RdU w a bs ∧ len ≤ cap ∧ cap ≤ 9223372036854775807 ∧ ∀ b ∈ bs, 0 ≤ b ∧ b ≤ 255 := by
  rcases open_ints Try.underlying23 Try.underlying5 cells5 h with ⟨hcs, _⟩ | ⟨x, l, c, zs, hcs, _, hl, hm, hz, _, hcell, hwz⟩
  · simp at hcs
    obtain ⟨rfl, rfl, rfl⟩ := hcs
    exact ⟨[], rfl, fun hne => absurd rfl hne, Nat.le_refl _, by omega, fun b hb => by cases hb⟩
  · simp at hcs
    obtain ⟨rfl, rfl, rfl⟩ := hcs
    exact ⟨zs.take len, by have hz2 : len ≤ zs.length := (by have h9 := hz; split at h9 <;> omega); rw [List.length_take]; omega, rdU_of_cells hcell, hl, by simpa [maxLen] using hm, fun b hb => u8_in (hwz b (List.mem_of_mem_take hb))⟩
theorem open_u8x2 {r : Reach} {v : Value} {d : DataW H} {p : List MemPlace} (hv : Value.okWide Try.prog w r base 22 v) (h : DataW.Trod enc Try.prog w 0 spare held 22 v d p) :
    ∃ x0 x1 : Int, v = .agg #[.int .u8 x0, .int .u8 x1] ∧ d = .agg [.lit (.int .u8 x0), .lit (.int .u8 x1)] ∧ p = [] ∧ (Lit.int .u8 x0).wf = true ∧ (Lit.int .u8 x1).wf = true := by
  obtain ⟨cs, rfl, hsz, _⟩ : ∃ cs, v = .agg cs ∧ cs.size = Try.prog.cellsOf 22 ∧ Row.okWide Try.prog w r base 22 cs := by
    simpa [Value.okWide, Try.underlying22] using hv
  rw [cells22] at hsz
  obtain ⟨l⟩ := cs
  obtain ⟨c0, c1, rfl⟩ := list2 l hsz
  obtain ⟨fuel, hf⟩ := h
  obtain ⟨y0, y1, m, hx, hy0, hy1⟩ := trod_arr2 Try.underlying22 cells5 hf
  obtain ⟨x0, e0, rfl, w0⟩ := DataW.trod_int Try.underlying5 hy0
  obtain ⟨x1, e1, rfl, w1⟩ := DataW.trod_int Try.underlying5 hy1
  simp at e0 e1
  subst e0 e1
  simp only [Prod.mk.injEq] at hx
  obtain ⟨rfl, rfl⟩ := hx
  exact ⟨x0, x1, rfl, rfl, rfl, w0, w1⟩
theorem shut_u8x2 {x0 x1 : Int} (w0 : (Lit.int .u8 x0).wf = true) (w1 : (Lit.int .u8 x1).wf = true) :
    DataW.Trod enc Try.prog w 0 spare held 22 (.agg #[.int .u8 x0, .int .u8 x1]) (DataW.agg [.lit (.int .u8 x0), .lit (.int .u8 x1)]) [] :=
  ⟨2, by simp [DataW.trod, Value.cells, Try.underlying22, Try.underlying5, cells22, cells5, w0, w1, show List.range 2 = [0, 1] from rfl]⟩

/-- What a slice of acts reads as. -/
def RdA (w : World) (A : Option Addr) (xs : List (Int × Int × Int)) : Prop :=
  xs ≠ [] → ∃ b o, A = some ⟨b, o, none⟩ ∧ b < w.heap.size ∧ ∀ i (hi : i < xs.length), w.cell? ⟨b, o + i * 3, none⟩ = some (.int .u8 xs[i].1) ∧ w.cell? ⟨b, o + i * 3 + 1, none⟩ = some (.int .i64 xs[i].2.1) ∧ w.cell? ⟨b, o + i * 3 + 2, none⟩ = some (.int .i64 xs[i].2.2)
theorem RdA.below {w w' : World} {A : Option Addr} {xs : List (Int × Int × Int)} (h : RdA w A xs) (hb : Below w.heap.size w w') : RdA w' A xs := fun hne => by
  obtain ⟨b, o, e, hlt, hc⟩ := h hne
  refine ⟨b, o, e, Nat.lt_of_lt_of_le hlt hb.size, fun i hi => ?_⟩
  obtain ⟨c1, c2, c3⟩ := hc i hi
  exact ⟨(hb.cell (p := ⟨b, o + i * 3, none⟩) hlt).trans c1, (hb.cell (p := ⟨b, o + i * 3 + 1, none⟩) hlt).trans c2, (hb.cell (p := ⟨b, o + i * 3 + 2, none⟩) hlt).trans c3⟩
theorem RdA.at {w : World} {A : Option Addr} {xs : List (Int × Int × Int)} (h : RdA w A xs) (i : Nat) (hi : i < xs.length) :
    ∃ b o, A = some ⟨b, o, none⟩ ∧ b < w.heap.size ∧ w.cell? ⟨b, o + i * 3, none⟩ = some (.int .u8 xs[i].1) ∧ w.cell? ⟨b, o + i * 3 + 1, none⟩ = some (.int .i64 xs[i].2.1) ∧ w.cell? ⟨b, o + i * 3 + 2, none⟩ = some (.int .i64 xs[i].2.2) := by
  obtain ⟨b, o, e, hlt, hc⟩ := h (fun e => by subst e; simp at hi)
  exact ⟨b, o, e, hlt, hc i hi⟩
theorem cells54 : Try.prog.cellsOf 54 = 3 := by kernel_rfl
theorem list3 {α : Type} (l : List α) (h : l.length = 3) : ∃ a b c, l = [a, b, c] := by
  match l, h with
  | [a, b, c], _ => exact ⟨a, b, c, rfl⟩
theorem act_read {fuel : Nat} {a : Addr} {y : DataW H × List MemPlace} (h : (w.cells? base a 3).bind (DataW.trod enc Try.prog w base spare held fuel 54) = some y) :
    ∃ x0 x1 x2 : Int, w.cell? a = some (.int .u8 x0) ∧ w.cell? (a.add 1) = some (.int .i64 x1) ∧ w.cell? (a.add 2) = some (.int .i64 x2) ∧ (0 ≤ x0 ∧ x0 ≤ 255) ∧ (Lit.int .i64 x1).wf = true ∧ (Lit.int .i64 x2).wf = true := by
  rw [Option.bind_eq_some_iff] at h
  obtain ⟨cs, hcs, hy⟩ := h
  obtain ⟨_, hlen, hat⟩ := World.cells?_some hcs
  obtain ⟨c0, c1, c2, rfl⟩ := list3 cs hlen
  obtain ⟨y0, y1, y2, m, _, _, hy0, hy1, hy2⟩ := Go.Deep.trod_struct3 Try.underlying54 hy
  rw [cells5] at hy0
  rw [cells3] at hy1 hy2
  obtain ⟨x0, e0, _, w0⟩ := DataW.trod_int Try.underlying5 hy0
  obtain ⟨x1, e1, _, w1⟩ := DataW.trod_int Try.underlying3 hy1
  obtain ⟨x2, e2, _, w2⟩ := DataW.trod_int Try.underlying3 hy2
  simp at e0 e1 e2
  subst e0 e1 e2
  have a0 := hat 0 (by omega)
  have a1 := hat 1 (by omega)
  have a2 := hat 2 (by omega)
  simp [Addr.add] at a0
  exact ⟨x0, x1, x2, a0, by simpa using a1, by simpa using a2, u8_in w0, w1, w2⟩
theorem open_acts {fuel : Nat} {a : Option Addr} {len cap : Nat} {x : DataW H × List MemPlace}
    (h : DataW.trod enc Try.prog w base spare held fuel 52 [.slice a len cap] = some x) :
    ∃ ps : List (Int × Int × Int), len = ps.length ∧ RdA w a ps ∧ len ≤ cap ∧ cap ≤ 9223372036854775807 ∧ ∀ p ∈ ps, (0 ≤ p.1 ∧ p.1 ≤ 255) ∧ (Lit.int .i64 p.2.1).wf = true ∧ (Lit.int .i64 p.2.2).wf = true := by
  rcases DataW.trod_slice Try.underlying52 h with ⟨h0, _⟩ | ⟨b, l, c, elems, rest, n, _, hcs, _, hb, hl, hm, hlen, hel, _, _⟩
  · simp at h0
    obtain ⟨rfl, rfl, rfl⟩ := h0
    exact ⟨[], rfl, fun hne => absurd rfl hne, by omega, by omega, fun p hp => by simp at hp⟩
  · simp at hcs
    obtain ⟨rfl, rfl, rfl⟩ := hcs
    rw [cells54] at hel
    obtain ⟨ps, hps, hat⟩ := list_of (fun i (p : Int × Int × Int) => (w.cell? (b.add (i * 3)) = some (.int .u8 p.1) ∧ w.cell? ((b.add (i * 3)).add 1) = some (.int .i64 p.2.1) ∧ w.cell? ((b.add (i * 3)).add 2) = some (.int .i64 p.2.2)) ∧ (0 ≤ p.1 ∧ p.1 ≤ 255) ∧ (Lit.int .i64 p.2.1).wf = true ∧ (Lit.int .i64 p.2.2).wf = true) len (fun i hi => by
      obtain ⟨x0, x1, x2, h0, h1, h2, r0, r1, r2⟩ := act_read ((hel i hi).trans (List.getElem?_eq_getElem (by omega)))
      exact ⟨(x0, x1, x2), ⟨h0, h1, h2⟩, r0, r1, r2⟩)
    refine ⟨ps, hps.symm, fun hne => ?_, hl, by simpa [maxLen] using hm, fun p hp => ?_⟩
    · have hpos : 0 < ps.length := List.length_pos_iff.2 hne
      obtain ⟨b0, off, spot⟩ := b
      have h0 := (hat 0 hpos).1.1
      have hspot : spot = none := by simpa [Addr.add] using World.cell?_spot h0
      subst hspot
      refine ⟨b0, off, rfl, ?_, fun i hi => ?_⟩
      · exact World.block_lt_of_cell? _ _ (by simpa [Addr.add] using h0)
      · obtain ⟨⟨q0, q1, q2⟩, _⟩ := hat i hi
        have e1 : (⟨b0, off, none⟩ : Addr).add (i * 3) = ⟨b0, off + i * 3, none⟩ := by
          unfold Addr.add
          split
          · simp
          · rfl
        rw [e1] at q0 q1 q2
        exact ⟨q0, by simpa [Addr.add] using q1, by simpa [Addr.add] using q2⟩
    · obtain ⟨i, hi, rfl⟩ := List.getElem_of_mem hp
      exact (hat i hi).2
end Go.Proofs.Ytahjgdikjaakbaa
