/- What is proved: facts on the best orders so far in memory. No condition beyond those in each statement. -/
import Derived.Test.YtlidnhmagleehaaZE
import Derived.Test.YtlidnhmagleehaaPf
namespace Go.Proofs.Ytlidnhmagleehaa
open Go.RowKit

/-- A row of lists. -/
def ArrS (w : World) (base g c : Nat) (vs : List Value) : Prop := w.ownsRow base 27 1 (.slice (some ⟨g, 0, none⟩) vs.length c) vs.length vs
theorem ArrS.at {w : World} {base g c : Nat} {vs : List Value} (h : ArrS w base g c vs) (i : Nat) (hi : i < vs.length) : w.cell? ⟨g, i, none⟩ = some vs[i] := by
  rw [World.ownsRow.cellAt h i (by omega)]; simp [hi]
theorem ArrS.free {w : World} {base g c : Nat} {vs : List Value} (h : ArrS w base g c vs) (i : Nat) : w.frozen? ⟨g, i, none⟩ = false := World.ownsRow.frozenAt h i
theorem ArrS.lt {w : World} {base g c : Nat} {vs : List Value} (h : ArrS w base g c vs) : base ≤ g ∧ g < w.heap.size := World.ownsRow.lt h g rfl
theorem ArrS.set {w : World} {base g c : Nat} {vs : List Value} (h : ArrS w base g c vs) (i : Nat) (y : Value) :
    ArrS (w.setCell ⟨g, i, none⟩ y) base g c (vs.set i y) := by
  have := World.ownsRow.stored h i y
  unfold ArrS
  rw [List.length_set]
  exact this.1
theorem ArrS.same {w w' : World} {base g c : Nat} {vs : List Value} (h : ArrS w base g c vs) (e : w'.heap[g]? = w.heap[g]?) : ArrS w' base g c vs := by
  refine ⟨h.1, ?_⟩
  rcases h.2 with h | ⟨g', cap, cur, e', hb, hg, h⟩
  · exact .inl h
  · cases e'
    exact .inr ⟨g, c, cur, rfl, hb, by rw [e]; exact hg, h⟩
theorem info27 : (Try.prog.info? 27).map (fun i => (i.zero, i.size, i.bytes)) = some (some (.slice none 0 0), 1, 24) := by kernel_rfl
theorem arrS_made (n : Nat) (hn : n ≤ 1000) (w : World) : ∃ w', (Instr.makeSlice 33 (.int .i64 n) (.int .i64 n)).run Try.prog w = .ok (.slice (some ⟨w.heap.size, 0, none⟩) n n) w' ∧ ArrS w' w.heap.size w.heap.size n (List.replicate n (.slice none 0 0)) ∧ Below w.heap.size w w' := by
  obtain ⟨i0, hi, hz0, hz1, hz2⟩ := info_parts info27
  obtain ⟨w0, hmk, hown, hgrow⟩ := run_make_full (P := Try.prog) w w.heap.size 33 27 i0 (.slice none 0 0) 1 Try.underlying33 hi hz0 hz1 .i64 .i64 n (by rw [hz2]; omega) (by simp [maxLen]; omega) (Nat.le_refl _)
  refine ⟨w0, hmk, ?_, (Below.refl _ _).grown hgrow (Nat.le_refl _) (fun k e => by cases e)⟩
  unfold ArrS
  have : (madeCells (Value.slice none 0 0).cells (n * 1)).toList = List.replicate n (Value.slice none 0 0) := by
    show (madeCells #[.slice none 0 0] (n * 1)).toList = _
    rw [toList_madeCells_one]; simp
  rw [this] at hown
  rw [List.length_replicate]
  exact hown
def cst (es : List (Int × Int)) (i : Nat) : List Int → Int := match i with
  | 0 => costB es
  | 1 => costC es
  | _ => costS es
/-- One of the three best orders. -/
def Slot (w : World) (vals : List Int) (ovs : List Value) (gv go i : Nat) : Option (Int × List Int) → Prop
  | none => ovs.getD i (.bool false) = .slice none 0 0
  | some (b, p) => vals.getD i 0 = b ∧ ∃ g c, ovs.getD i (.bool false) = .slice (some ⟨g, 0, none⟩) p.length c ∧ p.length ≤ c ∧ c ≤ 9223372036854775807 ∧ Rd w (some ⟨g, 0, none⟩) p ∧ g < w.heap.size ∧ g ≠ gv ∧ g ≠ go
def Bq (N gP gv go : Nat) (vals : List Int) (ovs : List Value) (w : World) : Prop :=
  vals.length = 3 ∧ ovs.length = 3 ∧ Arr w N gv 3 vals ∧ ArrS w N go 3 ovs ∧ w.cell? ⟨gP, 0, none⟩ = some (.slice (some ⟨gv, 0, none⟩) 3 3) ∧ w.cell? ⟨gP, 1, none⟩ = some (.slice (some ⟨go, 0, none⟩) 3 3) ∧ gP ≠ gv ∧ gP ≠ go
def Bst (N gP gv go : Nat) (st : Nat → Option (Int × List Int)) (w : World) : Prop :=
  ∃ vals ovs, Bq N gP gv go vals ovs w ∧ ∀ i, i < 3 → Slot w vals ovs gv go i (st i)
def B2 (N gv go : Nat) (w w' : World) : Prop := Below N w w' ∧ ∀ b, b < w.heap.size → b ≠ gv → b ≠ go → w'.heap[b]? = w.heap[b]?
theorem B2.refl (N gv go : Nat) (w : World) : B2 N gv go w w := ⟨Below.refl _ _, fun _ _ _ _ => rfl⟩
theorem B2.trans {N gv go : Nat} {w w' w'' : World} (h : B2 N gv go w w') (k : B2 N gv go w' w'') : B2 N gv go w w'' :=
  ⟨h.1.trans k.1, fun b hb h1 h2 => (k.2 b (Nat.lt_of_lt_of_le hb h.1.size) h1 h2).trans (h.2 b hb h1 h2)⟩
theorem B2.of_below {N gv go : Nat} {w w' : World} (hN : N ≤ w.heap.size) (h : Below w.heap.size w w') : B2 N gv go w w' := ⟨h.mono hN, fun b hb _ _ => h.block b hb⟩
theorem B2.setv {N gv go : Nat} {w w' : World} (h : B2 N gv go w w') (hN : N ≤ gv) (i : Nat) (v : Value) : B2 N gv go w (w'.setCell ⟨gv, i, none⟩ v) :=
  ⟨h.1.setCell hN v, fun b hb h1 h2 => (heap_setCell_other w' ⟨gv, i, none⟩ b v h1).trans (h.2 b hb h1 h2)⟩
theorem B2.seto {N gv go : Nat} {w w' : World} (h : B2 N gv go w w') (hN : N ≤ go) (i : Nat) (v : Value) : B2 N gv go w (w'.setCell ⟨go, i, none⟩ v) :=
  ⟨h.1.setCell hN v, fun b hb h1 h2 => (heap_setCell_other w' ⟨go, i, none⟩ b v h2).trans (h.2 b hb h1 h2)⟩
theorem bq_ne {N gP gv go : Nat} {vals : List Int} {ovs : List Value} {w : World} (h : Bq N gP gv go vals ovs w) : gv ≠ go := by
  obtain ⟨_, _, h1, h2, _⟩ := h
  rintro rfl
  rcases h1.2 with ⟨e, _⟩ | ⟨g1, cap1, cur1, e1, _, hh1, _⟩
  · simp at e
  · rcases h2.2 with ⟨e, _⟩ | ⟨g2, cap2, cur2, e2, _, hh2, _⟩
    · simp at e
    · simp at e1 e2
      rw [← e1.1] at hh1
      rw [← e2.1] at hh2
      rw [hh1] at hh2
      simp at hh2
theorem Bq.same {N gP gv go : Nat} {vals : List Int} {ovs : List Value} {w w' : World} (h : Bq N gP gv go vals ovs w) (e1 : w'.heap[gv]? = w.heap[gv]?) (e2 : w'.heap[go]? = w.heap[go]?) (e3 : w'.heap[gP]? = w.heap[gP]?) : Bq N gP gv go vals ovs w' := by
  obtain ⟨h1, h2, h3, h4, h5, h6, h7, h8⟩ := h
  exact ⟨h1, h2, h3.same e1, h4.same e2, (World.cell?_of_block e3).trans h5, (World.cell?_of_block e3).trans h6, h7, h8⟩
theorem Bq.lt {N gP gv go : Nat} {vals : List Int} {ovs : List Value} {w : World} (h : Bq N gP gv go vals ovs w) : (N ≤ gv ∧ gv < w.heap.size) ∧ (N ≤ go ∧ go < w.heap.size) ∧ gP < w.heap.size :=
  ⟨h.2.2.1.lt, h.2.2.2.1.lt, World.block_lt_of_cell? _ _ h.2.2.2.2.1⟩
theorem Bq.below {N gP gv go : Nat} {vals : List Int} {ovs : List Value} {w w' : World} (h : Bq N gP gv go vals ovs w) (hb : Below w.heap.size w w') : Bq N gP gv go vals ovs w' :=
  h.same (hb.block _ h.lt.1.2) (hb.block _ h.lt.2.1.2) (hb.block _ h.lt.2.2)
theorem Bq.setv {N gP gv go : Nat} {vals : List Int} {ovs : List Value} {w : World} (h : Bq N gP gv go vals ovs w) (i : Nat) (x : Int) : Bq N gP gv go (vals.set i x) ovs (w.setCell ⟨gv, i, none⟩ (.int .i64 x)) := by
  have hne := bq_ne h
  obtain ⟨h1, h2, h3, h4, h5, h6, h7, h8⟩ := h
  have eP := heap_setCell_other w ⟨gv, i, none⟩ gP (.int .i64 x) h7
  exact ⟨by rw [List.length_set]; exact h1, h2, (h3.set i x).1, h4.same (heap_setCell_other w ⟨gv, i, none⟩ go _ (Ne.symm hne)), (World.cell?_of_block eP).trans h5, (World.cell?_of_block eP).trans h6, h7, h8⟩
theorem Bq.seto {N gP gv go : Nat} {vals : List Int} {ovs : List Value} {w : World} (h : Bq N gP gv go vals ovs w) (i : Nat) (x : Value) : Bq N gP gv go vals (ovs.set i x) (w.setCell ⟨go, i, none⟩ x) := by
  have hne := bq_ne h
  obtain ⟨h1, h2, h3, h4, h5, h6, h7, h8⟩ := h
  have eP := heap_setCell_other w ⟨go, i, none⟩ gP x h8
  exact ⟨h1, by rw [List.length_set]; exact h2, h3.same (heap_setCell_other w ⟨go, i, none⟩ gv _ hne), h4.set i x, (World.cell?_of_block eP).trans h5, (World.cell?_of_block eP).trans h6, h7, h8⟩
theorem rd_same {w w' : World} {g : Nat} {p : List Int} (h : Rd w (some ⟨g, 0, none⟩) p) (hs : w.heap.size ≤ w'.heap.size) (e : w'.heap[g]? = w.heap[g]?) : Rd w' (some ⟨g, 0, none⟩) p := fun hne => by
  obtain ⟨b, o, e', hlt, hc⟩ := h hne
  cases e'
  exact ⟨g, 0, rfl, by omega, fun i hi => (World.cell?_of_block (a := ⟨g, 0 + i, none⟩) e).trans (hc i hi)⟩
theorem Slot.b2 {N : Nat} {w w' : World} {vals : List Int} {ovs : List Value} {gv go i : Nat} {s : Option (Int × List Int)} (h : Slot w vals ovs gv go i s) (hb : B2 N gv go w w') : Slot w' vals ovs gv go i s := by
  cases s with
  | none => exact h
  | some bp =>
    obtain ⟨b, p⟩ := bp
    obtain ⟨h1, g, c, h2, h3, h4, h5, h6, h7, h8⟩ := h
    exact ⟨h1, g, c, h2, h3, h4, rd_same h5 hb.1.size (hb.2 g h6 h7 h8), Nat.lt_of_lt_of_le h6 hb.1.size, h7, h8⟩
theorem Bst.below {N gP gv go : Nat} {st : Nat → Option (Int × List Int)} {w w' : World} (h : Bst N gP gv go st w) (hN : N ≤ w.heap.size) (hb : Below w.heap.size w w') : Bst N gP gv go st w' := by
  obtain ⟨vals, ovs, hq, hs⟩ := h
  exact ⟨vals, ovs, hq.below hb, fun i hi => (hs i hi).b2 (B2.of_below hN hb)⟩
/-- After an order is noted. -/
theorem bst_put {N gP gv go kk g2 c2 : Nat} {b : Int} {p : List Int} {st : Nat → Option (Int × List Int)} {W x : World} {vals : List Int} {ovs : List Value} (hq : Bq N gP gv go vals ovs W) (hs : ∀ i, i < 3 → Slot W vals ovs gv go i (st i))
    (hx : Bq N gP gv go (vals.set kk b) (ovs.set kk (.slice (some ⟨g2, 0, none⟩) p.length c2)) x) (h2 : B2 N gv go W x) (hr : Arr x W.heap.size g2 c2 p) (hk : kk < 3) :
    Bst N gP gv go (fun i => if i = kk then some (b, p) else st i) x := by
  refine ⟨_, _, hx, fun i hi => ?_⟩
  have hl := hq.lt
  have hbd := hr.bd
  have hrl := hr.lt
  show Slot x _ _ gv go i (if i = kk then some (b, p) else st i)
  by_cases e : i = kk
  · subst e
    rw [if_pos rfl]
    refine ⟨?_, g2, c2, ?_, hbd.1, hbd.2, hr.rd, hrl.2, by omega, by omega⟩
    · rw [getD_set (by rw [hq.1]; exact hi), if_pos rfl]
    · rw [List.getD_eq_getElem?_getD, List.getElem?_set_self (by rw [hq.2.1]; exact hi)]; rfl
  · rw [if_neg e]
    have h := (hs i hi).b2 h2
    have e1 : (vals.set kk b).getD i 0 = vals.getD i 0 := by rw [getD_set (by rw [hq.1]; exact hk), if_neg (Ne.symm e)]
    have e2 : (ovs.set kk (.slice (some ⟨g2, 0, none⟩) p.length c2)).getD i (.bool false) = ovs.getD i (.bool false) := by
      rw [List.getD_eq_getElem?_getD, List.getElem?_set_ne (Ne.symm e), ← List.getD_eq_getElem?_getD]
    cases hsi : st i with
    | none =>
      rw [hsi] at h
      show _ = _
      rw [e2]; exact h
    | some bp =>
      obtain ⟨b', p'⟩ := bp
      rw [hsi] at h
      obtain ⟨h1, g, c, r1, r2⟩ := h
      exact ⟨by rw [e1]; exact h1, g, c, by rw [e2]; exact r1, r2⟩
/-- What stands while an order is noted. -/
def Kp (N gP gv go : Nat) (W w : World) : Prop := ∃ vals ovs, Bq N gP gv go vals ovs w ∧ B2 N gv go W w ∧ W.heap.size ≤ w.heap.size ∧ (gv < W.heap.size ∧ go < W.heap.size ∧ gP < W.heap.size) ∧ N ≤ W.heap.size
theorem Kp.init {N gP gv go : Nat} {vals : List Int} {ovs : List Value} {W : World} (h : Bq N gP gv go vals ovs W) : Kp N gP gv go W W :=
  ⟨vals, ovs, h, B2.refl _ _ _ _, Nat.le_refl _, ⟨h.lt.1.2, h.lt.2.1.2, h.lt.2.2⟩, by have := h.lt; omega⟩
theorem Kp.drew {N gP gv go : Nat} {W w : World} (h : Kp N gP gv go W w) : Kp N gP gv go W w.drew := by
  obtain ⟨vals, ovs, h1, h2, h3⟩ := h
  exact ⟨vals, ovs, h1.same rfl rfl rfl, ⟨h2.1.drew, h2.2⟩, h3⟩
theorem Kp.below {N gP gv go : Nat} {W w w' : World} (h : Kp N gP gv go W w) (hb : Below W.heap.size w w') : Kp N gP gv go W w' := by
  obtain ⟨vals, ovs, h1, h2, h3, ⟨l1, l2, l3⟩, h4⟩ := h
  exact ⟨vals, ovs, h1.same (hb.block _ l1) (hb.block _ l2) (hb.block _ l3), ⟨h2.1.trans (hb.mono h4), fun b q1 q2 q3 => (hb.block b q1).trans (h2.2 b q1 q2 q3)⟩, Nat.le_trans h3 hb.size, ⟨l1, l2, l3⟩, h4⟩
theorem Kp.alloc {N gP gv go : Nat} {W w : World} (h : Kp N gP gv go W w) (o : Obj) : Kp N gP gv go W (w.alloc o) := h.below ((Below.refl _ _).alloc (by obtain ⟨_, _, _, _, h3, _⟩ := h; exact h3) o)
theorem Kp.setv {N gP gv go : Nat} {W w : World} (h : Kp N gP gv go W w) (i : Nat) (x : Int) : Kp N gP gv go W (w.setCell ⟨gv, i, none⟩ (.int .i64 x)) := by
  obtain ⟨vals, ovs, h1, h2, h3, h4⟩ := h
  exact ⟨_, _, h1.setv i x, h2.setv h1.lt.1.1 i _, by simpa using h3, h4⟩
theorem Kp.seto {N gP gv go : Nat} {W w : World} (h : Kp N gP gv go W w) (i : Nat) (x : Value) : Kp N gP gv go W (w.setCell ⟨go, i, none⟩ x) := by
  obtain ⟨vals, ovs, h1, h2, h3, h4⟩ := h
  exact ⟨_, _, h1.seto i x, h2.seto h1.lt.2.1.1 i _, by simpa using h3, h4⟩
def cellv (w : World) (a : Addr) : Value := (w.cell? a).getD (.bool false)
theorem keepS {N gP gv go kk : Nat} {W w : World} (h : Kp N gP gv go W w) (hk : kk < 3) :
    w.cell? ⟨gP, 0, none⟩ = some (.slice (some ⟨gv, 0, none⟩) 3 3) ∧ w.cell? ⟨gP, 1, none⟩ = some (.slice (some ⟨go, 0, none⟩) 3 3) ∧ w.cell? ⟨gv, kk, none⟩ = some (cellv w ⟨gv, kk, none⟩) ∧ w.cell? ⟨go, kk, none⟩ = some (cellv w ⟨go, kk, none⟩) ∧
      w.frozen? ⟨gv, kk, none⟩ = false ∧ w.frozen? ⟨go, kk, none⟩ = false ∧ Kp N gP gv go W w := by
  have h0 := h
  obtain ⟨vals, ovs, ⟨h1, h2, h3, h4, h5, h6, _⟩, _⟩ := h
  refine ⟨h5, h6, ?_, ?_, h3.free kk, h4.free kk, h0⟩
  · unfold cellv; rw [h3.at kk (by omega)]; rfl
  · unfold cellv; rw [h4.at kk (by omega)]; rfl
end Go.Proofs.Ytlidnhmagleehaa
