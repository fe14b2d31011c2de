/- What is proved: Bound. No condition beyond those in each statement. -/
import Derived.Test.YtlidnhmagleehaaO
import Derived.Test.YtlidnhmagleehaaPd
namespace Go.Proofs.Ytlidnhmagleehaa
open Go.RowKit

/-- A row of slices. -/
def ArrV (w : World) (base g c : Nat) (vs : List Value) : Prop := w.ownsRow base 74 1 (.slice (some ⟨g, 0, none⟩) vs.length c) vs.length vs
theorem ArrV.at {w : World} {base g c : Nat} {vs : List Value} (h : ArrV w base g c vs) (i : Nat) (hi : i < vs.length) : w.cell? ⟨g, i, none⟩ = some vs[i] := by
  rw [World.ownsRow.cellAt h i (by omega)]; simp [hi]
theorem ArrV.free {w : World} {base g c : Nat} {vs : List Value} (h : ArrV w base g c vs) (i : Nat) : w.frozen? ⟨g, i, none⟩ = false := World.ownsRow.frozenAt h i
theorem ArrV.lt {w : World} {base g c : Nat} {vs : List Value} (h : ArrV w base g c vs) : base ≤ g ∧ g < w.heap.size := World.ownsRow.lt h g rfl
theorem ArrV.set {w : World} {base g c : Nat} {vs : List Value} (h : ArrV w base g c vs) (i : Nat) (y : Value) :
    ArrV (w.setCell ⟨g, i, none⟩ y) base g c (vs.set i y) ∧ Bo base g w (w.setCell ⟨g, i, none⟩ y) := by
  have := World.ownsRow.stored h i y
  refine ⟨?_, (Below.refl _ _).setCell h.lt.1 _, fun b hb => heap_setCell_other w ⟨g, i, none⟩ b _ hb⟩
  unfold ArrV
  rw [List.length_set]
  exact this.1
theorem ArrV.same {w w' : World} {base g c : Nat} {vs : List Value} (h : ArrV w base g c vs) (e : w'.heap[g]? = w.heap[g]?) : ArrV w' base g c vs := by
  refine ⟨h.1, ?_⟩
  rcases h.2 with h | ⟨g', cap, cur, e', hb, hg, h⟩
  · exact .inl h
  · cases e'
    exact .inr ⟨g, c, cur, rfl, hb, by rw [e]; exact hg, h⟩
theorem info74 : (Try.prog.info? 74).map (fun i => (i.zero, i.size, i.bytes)) = some (some (.slice none 0 0), 1, 24) := by kernel_rfl
theorem arrV_made (n : Nat) (hn : n ≤ 1000) (w : World) : ∃ w', (Instr.makeSlice 73 (.int .i64 n) (.int .i64 n)).run Try.prog w = .ok (.slice (some ⟨w.heap.size, 0, none⟩) n n) w' ∧ ArrV w' w.heap.size w.heap.size n (List.replicate n (.slice none 0 0)) ∧ Below w.heap.size w w' := by
  obtain ⟨i0, hi, hz0, hz1, hz2⟩ := info_parts info74
  obtain ⟨w0, hmk, hown, hgrow⟩ := run_make_full (P := Try.prog) w w.heap.size 73 74 i0 (.slice none 0 0) 1 Try.underlying73 hi hz0 hz1 .i64 .i64 n (by rw [hz2]; omega) (by simp [maxLen]; omega) (Nat.le_refl _)
  refine ⟨w0, hmk, ?_, (Below.refl _ _).grown hgrow (Nat.le_refl _) (fun k e => by cases e)⟩
  unfold ArrV
  have : (madeCells (Value.slice none 0 0).cells (n * 1)).toList = List.replicate n (Value.slice none 0 0) := by
    show (madeCells #[.slice none 0 0] (n * 1)).toList = _
    rw [toList_madeCells_one]; simp
  rw [this] at hown
  rw [List.length_replicate]
  exact hown
def slV (n r : Nat) : Value := .slice (some ⟨r, 0, none⟩) n n
/-- The rows that are made so far. -/
def RowsOk (w : World) (N gj n : Nat) (rs : List Nat) (J : Nat → Nat → Bool) : Prop :=
  ArrV w N gj n (rs.map (slV n) ++ List.replicate (n - rs.length) (.slice none 0 0)) ∧ rs.length ≤ n ∧ (∀ i (h : i < rs.length), ArrB w N rs[i] n ((List.range n).map (J i))) ∧ rs.Nodup ∧ gj ∉ rs
theorem RowsOk.same {w w' : World} {N gj n : Nat} {rs : List Nat} {J : Nat → Nat → Bool} (h : RowsOk w N gj n rs J) (e : ∀ b, b < w.heap.size → w'.heap[b]? = w.heap[b]?) : RowsOk w' N gj n rs J :=
  ⟨h.1.same (e gj h.1.lt.2), h.2.1, fun i hi => (h.2.2.1 i hi).same (e _ (h.2.2.1 i hi).lt.2), h.2.2.2⟩
theorem RowsOk.nil {w : World} {N gj n : Nat} (h : ArrV w N gj n (List.replicate n (.slice none 0 0))) (J : Nat → Nat → Bool) : RowsOk w N gj n [] J :=
  ⟨by simpa using h, Nat.zero_le _, fun i hi => by simp at hi, by simp, by simp⟩
theorem rows_push {w w' : World} {N gj n r : Nat} {rs : List Nat} {J : Nat → Nat → Bool} (h : RowsOk w N gj n rs J) (hlt : rs.length < n) (hB : Below w.heap.size w w') (hr : w.heap.size ≤ r) (hrow : ArrB w' N r n ((List.range n).map (J rs.length))) :
    RowsOk (w'.setCell ⟨gj, rs.length, none⟩ (slV n r)) N gj n (rs ++ [r]) J := by
  obtain ⟨h1, h2, h3, h4, h5⟩ := h
  have hgj : gj < w.heap.size := h1.lt.2
  have hne : gj ≠ r := by omega
  have a1 := (h1.same (hB.block gj hgj)).set rs.length (slV n r)
  have hoth : ∀ b, b ≠ gj → (w'.setCell ⟨gj, rs.length, none⟩ (slV n r)).heap[b]? = w'.heap[b]? := a1.2.2
  have hrs : ∀ i (hi : i < rs.length), rs[i] < w.heap.size := fun i hi => (h3 i hi).lt.2
  refine ⟨?_, by simp; omega, fun i hi => ?_, ?_, ?_⟩
  · have e : (rs.map (slV n) ++ List.replicate (n - rs.length) (Value.slice none 0 0)).set rs.length (slV n r) = (rs ++ [r]).map (slV n) ++ List.replicate (n - (rs ++ [r]).length) (.slice none 0 0) := by
      rw [List.set_append_right _ _ (by simp), List.length_map, Nat.sub_self, List.map_append, List.append_assoc]
      congr 1
      rw [show n - rs.length = (n - (rs ++ [r]).length) + 1 by simp; omega, List.replicate_succ, List.set_cons_zero]; rfl
    rw [← e]; exact a1.1
  · by_cases c : i < rs.length
    · rw [List.getElem_append_left c]
      have hne2 : rs[i] ≠ gj := fun e => h5 (by rw [← e]; exact List.getElem_mem _)
      exact (h3 i c).same ((hoth _ hne2).trans (hB.block _ (hrs i c)))
    · have hi' : i = rs.length := by simp at hi; omega
      subst hi'
      rw [List.getElem_append_right (Nat.le_refl _)]
      simp only [Nat.sub_self, List.getElem_cons_zero]
      exact hrow.same (hoth _ hne.symm)
  · refine List.nodup_append.2 ⟨h4, by simp, fun x hx y hy => ?_⟩
    have : y = r := by simpa using hy
    subst this
    obtain ⟨i, hi, rfl⟩ := List.getElem_of_mem hx
    have := hrs i hi
    omega
  · rw [List.mem_append]
    rintro (h | h)
    · exact h5 h
    · exact hne (by simpa using h)
theorem rows_at {w : World} {N gj n : Nat} {rs : List Nat} {J : Nat → Nat → Bool} (h : RowsOk w N gj n rs J) (hn : rs.length = n) {x : Nat} (hx : x < n) :
    ∃ r, w.cell? ⟨gj, x, none⟩ = some (.slice (some ⟨r, 0, none⟩) n n) ∧ r ≠ gj ∧ r < w.heap.size ∧ ArrB w N r n ((List.range n).map (J x)) ∧ rs.getD x 0 = r := by
  obtain ⟨h1, h2, h3, h4, h5⟩ := h
  have hxl : x < rs.length := by omega
  refine ⟨rs[x], ?_, fun e => h5 (by rw [← e]; exact List.getElem_mem _), (h3 x hxl).lt.2, h3 x hxl, by rw [List.getD_eq_getElem?_getD, List.getElem?_eq_getElem hxl]; rfl⟩
  have := h1.at x (by simp; omega)
  rw [this, List.getElem_append_left (by simpa using hxl), List.getElem_map]; rfl
theorem map_set_true {n y : Nat} {f f' : Nat → Bool} (h1 : f' y = true) (h2 : ∀ j, j ≠ y → f' j = f j) : ((List.range n).map f).set y true = (List.range n).map f' := by
  apply List.ext_getElem
  · simp
  · intro j g1 g2
    rw [List.getElem_set, List.getElem_map, List.getElem_map, List.getElem_range]
    by_cases e : y = j
    · subst e; rw [if_pos rfl, h1]
    · rw [if_neg e, h2 j (fun h => e h.symm)]
theorem nodup_inj {l : List Nat} (h : l.Nodup) {i j : Nat} (hi : i < l.length) (hj : j < l.length) (e : l[i] = l[j]) : i = j := by
  have a := List.Nodup.idxOf_getElem h i hi
  have b := List.Nodup.idxOf_getElem h j hj
  rw [e] at a
  omega
theorem rows_edge {w : World} {N gj n rx ry x y : Nat} {rs : List Nat} {J J' : Nat → Nat → Bool} (h : RowsOk w N gj n rs J) (hn : rs.length = n) (hx : x < n) (hy : y < n) (hxy : x ≠ y) (erx : rs.getD x 0 = rx) (ery : rs.getD y 0 = ry)
    (hJ : ∀ a b, J' a b = (J a b || (decide (a = x) && decide (b = y)) || (decide (a = y) && decide (b = x)))) :
    RowsOk ((w.setCell ⟨rx, y, none⟩ (.bool true)).setCell ⟨ry, x, none⟩ (.bool true)) N gj n rs J' ∧ (∀ b, b ∉ rs → ((w.setCell ⟨rx, y, none⟩ (.bool true)).setCell ⟨ry, x, none⟩ (.bool true)).heap[b]? = w.heap[b]?) ∧
      Below N w ((w.setCell ⟨rx, y, none⟩ (.bool true)).setCell ⟨ry, x, none⟩ (.bool true)) := by
  obtain ⟨h1, h2, h3, h4, h5⟩ := h
  have hxl : x < rs.length := by omega
  have hyl : y < rs.length := by omega
  have e1 : rx = rs[x] := by rw [← erx, List.getD_eq_getElem?_getD, List.getElem?_eq_getElem hxl]; rfl
  have e2 : ry = rs[y] := by rw [← ery, List.getD_eq_getElem?_getD, List.getElem?_eq_getElem hyl]; rfl
  have hne : rx ≠ ry := by
    rw [e1, e2]; intro e
    exact hxy (nodup_inj h4 hxl hyl e)
  have ax := h3 x hxl
  rw [← e1] at ax
  have ay := h3 y hyl
  rw [← e2] at ay
  have s1 := ax.set y true
  have ay' := ay.same (s1.2.2 ry (fun e => hne e.symm))
  have s2 := ay'.set x true
  have ax' := s1.1.same (s2.2.2 rx hne)
  have hoth : ∀ b, b ≠ rx → b ≠ ry → ((w.setCell ⟨rx, y, none⟩ (.bool true)).setCell ⟨ry, x, none⟩ (.bool true)).heap[b]? = w.heap[b]? := fun b hb1 hb2 => (s2.2.2 b hb2).trans (s1.2.2 b hb1)
  have hmx : rx ∈ rs := by rw [e1]; exact List.getElem_mem _
  have hmy : ry ∈ rs := by rw [e2]; exact List.getElem_mem _
  refine ⟨⟨h1.same (hoth gj (fun e => h5 (by rw [e]; exact hmx)) (fun e => h5 (by rw [e]; exact hmy))), h2, fun i hi => ?_, h4, h5⟩, fun b hb => hoth b (fun e => hb (by rw [e]; exact hmx)) (fun e => hb (by rw [e]; exact hmy)), s1.2.1.trans s2.2.1⟩
  by_cases c1 : i = x
  · subst c1
    rw [← e1]
    have : ((List.range n).map (J i)).set y true = (List.range n).map (J' i) := map_set_true (by rw [hJ]; simp) (fun j hj => by rw [hJ]; simp [hj, hxy])
    rw [← this]; exact ax'
  · by_cases c2 : i = y
    · subst c2
      rw [← e2]
      have : ((List.range n).map (J i)).set x true = (List.range n).map (J' i) := map_set_true (by rw [hJ]; simp) (fun j hj => by rw [hJ]; simp [hj, c1])
      rw [← this]; exact s2.1
    · have n1 : rs[i] ≠ rx := by rw [e1]; intro e; exact c1 (nodup_inj h4 hi hxl e)
      have n2 : rs[i] ≠ ry := by rw [e2]; intro e; exact c2 (nodup_inj h4 hi hyl e)
      have hf : J' i = J i := by funext j; rw [hJ]; simp [c1, c2]
      rw [hf]
      exact (h3 i hi).same (hoth _ n1 n2)
end Go.Proofs.Ytlidnhmagleehaa
