/- What is proved: a range over the map of lists. No condition beyond those in each statement. -/
import Derived.Test.YtahjgdikjaakbaaQ
import Derived.Maps.RangeRun
import Derived.Maps.Range
namespace Go.Proofs.Ytahjgdikjaakbaa
open Go.RowKit
open Go.ChangeMaps Go.MapKept Go.WideShapes

/-- A range over such a map, under way: which entries are still to come. -/
def FlR (w : World) (b r n : Nat) (f : Nat → Nat → Value) (left : Nat → Nat → Bool) (cnt : Nat) : Prop :=
  ∃ es clock since seen c0, w.heap[b]? = some (.map es clock) ∧ FlE n f es clock ∧ w.heap[r]? = some (.mapIter (some b) since seen c0) ∧ (∀ x ∈ es.toList, x.born < since) ∧ since ≤ c0 ∧ since ≤ clock ∧ (leftOf es seen).size = cnt ∧
    (∀ x ∈ es.toList, ∀ i j, x.key = keyV i j → left i j = !seen.contains x.born) ∧ (∀ i j, left i j = true → ∃ x ∈ es.toList, x.key = keyV i j)
def flLeft (w : World) (b r : Nat) : Nat :=
  match w.heap[b]?, w.heap[r]? with
  | some (.map es _), some (.mapIter _ _ seen _) => (leftOf es seen).size
  | _, _ => 0
theorem FlR.left_eq {w : World} {b r n : Nat} {f : Nat → Nat → Value} {left : Nat → Nat → Bool} {cnt : Nat} (h : FlR w b r n f left cnt) : flLeft w b r = cnt := by
  obtain ⟨es, clock, since, seen, c0, hb, _, hr, _, _, _, hc, _⟩ := h
  simp only [flLeft, hb, hr]
  exact hc
theorem FlR.lt {w : World} {b r n : Nat} {f : Nat → Nat → Value} {left : Nat → Nat → Bool} {cnt : Nat} (h : FlR w b r n f left cnt) : b < w.heap.size ∧ r < w.heap.size := by
  obtain ⟨es, clock, since, seen, c0, hb, _, hr, _⟩ := h
  exact ⟨(Array.getElem?_eq_some_iff.1 hb).1, (Array.getElem?_eq_some_iff.1 hr).1⟩
theorem FlR.same {w w' : World} {b r n : Nat} {f : Nat → Nat → Value} {left : Nat → Nat → Bool} {cnt : Nat} (h : FlR w b r n f left cnt) (e1 : w'.heap[b]? = w.heap[b]?) (e2 : w'.heap[r]? = w.heap[r]?) : FlR w' b r n f left cnt := by
  obtain ⟨es, clock, since, seen, c0, hb, hE, hr, rest⟩ := h
  exact ⟨es, clock, since, seen, c0, e1.trans hb, hE, e2.trans hr, rest⟩
theorem FlR.below {w w' : World} {b r n : Nat} {f : Nat → Nat → Value} {left : Nat → Nat → Bool} {cnt : Nat} (h : FlR w b r n f left cnt) (hb : Below w.heap.size w w') : FlR w' b r n f left cnt :=
  h.same (hb.block _ h.lt.1) (hb.block _ h.lt.2)
theorem fl_range {w : World} {b n : Nat} {f : Nat → Nat → Value} (h : FlAt w b n f) : ∃ left cnt w', (Instr.range 62 (.map (some b))).run Try.prog w = .ok (.pointer (some ⟨w.heap.size, 0, none⟩)) w' ∧ FlR w' b w.heap.size n f left cnt ∧ Below w.heap.size w w' ∧ (∀ i j, i < n → j < n → left i j = false → f i j = nilV) := by
  classical
  obtain ⟨es, clock, hb, hE⟩ := h
  have hlt : b < w.heap.size := (Array.getElem?_eq_some_iff.1 hb).1
  refine ⟨fun i j => es.toList.any fun x => decide (x.key = keyV i j), _, _, run_range_map w 62 68 67 b es clock Try.underlying62 hb, ⟨es, clock, clock, #[], clock, (Below.heap_alloc _ _ _ hlt).trans hb, hE, ?_, hE.1.1, Nat.le_refl _, Nat.le_refl _, rfl, ?_, ?_⟩, (Below.refl _ _).alloc (Nat.le_refl _) _, ?_⟩
  · exact World.alloc_heap_new w _
  · intro x hx i j hk
    have : (es.toList.any fun x => decide (x.key = keyV i j)) = true := List.any_eq_true.2 ⟨x, hx, decide_eq_true hk⟩
    show (es.toList.any fun x => decide (x.key = keyV i j)) = _
    rw [this]
    simp
  · intro i j h
    obtain ⟨x, hx, e⟩ := List.any_eq_true.1 h
    exact ⟨x, hx, of_decide_eq_true e⟩
  · intro i j hi hj h
    refine hE.2.2 i j hi hj fun x hx e => ?_
    have : (es.toList.any fun x => decide (x.key = keyV i j)) = true := List.any_eq_true.2 ⟨x, hx, decide_eq_true e⟩
    have h' : (es.toList.any fun x => decide (x.key = keyV i j)) = false := h
    rw [this] at h'
    cases h'
theorem fl_next {w : World} {b r n : Nat} {f : Nat → Nat → Value} {left : Nat → Nat → Bool} {cnt : Nat} (h : FlR w b r n f left cnt) (ty : TypeId) :
    (cnt = 0 ∧ (∀ i j, left i j = false) ∧ (Instr.next (.pointer (some ⟨r, 0, none⟩)) false ty).run Try.prog w = .ok (.tuple #[.bool false]) w) ∨
    ∃ i j w' cnt', i < n ∧ j < n ∧ left i j = true ∧ (Instr.next (.pointer (some ⟨r, 0, none⟩)) false ty).run Try.prog w = .ok (.tuple #[.bool true, keyV i j, f i j]) w' ∧
      FlR w' b r n f (fun x y => left x y && !(x == i && y == j)) cnt' ∧ cnt' < cnt ∧ w.grownBy w' (some r) ∧ w'.heap.size = w.heap.size ∧ (Instr.entry (.pointer (some ⟨r, 0, none⟩))).run Try.prog w' = .ok (.tuple #[keyV i j, f i j]) w' := by
  obtain ⟨es, clock, since, seen, c0, hb, hE, hr, hold, hsc, hsk, rfl, hl1, hl2⟩ := h
  have hne : r ≠ b := by
    rintro rfl
    rw [hb] at hr
    cases hr
  rcases run_next_at (P := Try.prog) w ty r b since c0 seen es clock hr hb hold hsc with ⟨h0, hrun⟩ | ⟨e, he, w1, hal, hrun⟩
  · refine Or.inl ⟨h0, fun i j => ?_, hrun⟩
    cases hk : left i j
    · rfl
    · obtain ⟨x, hx, ek⟩ := hl2 i j hk
      rw [hl1 x hx i j ek, all_seen es seen h0 x hx] at hk
      cases hk
  · obtain ⟨hem, hes⟩ := mem_left he
    obtain ⟨i, j, hi, hj, ek, ev⟩ := hE.2.1 e hem
    have hr1 : w1.heap[r]? = some (.mapIter (some b) since seen c0) := by rcases hal with rfl | rfl <;> exact hr
    have hb1 : w1.heap[b]? = some (.map es clock) := by rcases hal with rfl | rfl <;> exact hb
    have hset := heap_set (o' := .mapIter (some b) since (seen.push e.born) clock) hr1
    have hb' : (setBlock w1 r (.mapIter (some b) since (seen.push e.born) clock)).heap[b]? = some (.map es clock) := (hset.2 b (fun e1 => hne e1.symm)).trans hb1
    have hen := run_entry_at (P := Try.prog) _ r b since seen es clock e hset.1 hb' hem hE.1.2.1
    rw [ek, ev] at hrun hen
    refine Or.inr ⟨i, j, _, _, hi, hj, ?_, hrun, ⟨es, clock, since, seen.push e.born, clock, hb', hE, hset.1, hold, hsk, hsk, rfl, ?_, ?_⟩, left_shrinks es seen e he, ?_, ?_, hen⟩
    · rw [hl1 e hem i j ek, hes]; rfl
    · intro x hx a c hk
      show (left a c && !(a == i && c == j)) = _
      rw [hl1 x hx a c hk, contains_push]
      have hkey : (x.born == e.born) = (a == i && c == j) := by
        by_cases hxe : x.born = e.born
        · have := born_inj hE.1.2.1 hx hem hxe
          subst this
          obtain ⟨e1, e2⟩ := keyV_inj (hk.symm.trans ek)
          subst e1 e2
          simp
        · have h1 : (x.born == e.born) = false := by simp [hxe]
          rw [h1]
          by_cases hac : a = i ∧ c = j
          · obtain ⟨rfl, rfl⟩ := hac
            exfalso
            have hxe' : x = e := by
              have hnd := hE.1.2.2
              obtain ⟨p, hp, e1⟩ := List.mem_iff_getElem.1 hx
              obtain ⟨q, hq, e2⟩ := List.mem_iff_getElem.1 hem
              have : (es.toList.map (·.key))[p]'(by simpa using hp) = (es.toList.map (·.key))[q]'(by simpa using hq) := by
                simp only [List.getElem_map, e1, e2, hk, ek]
              have := (List.getElem_inj hnd).1 this
              subst this
              rw [← e1, ← e2]
            exact hxe (by rw [hxe'])
          · symm
            rw [Bool.and_eq_false_iff]
            by_cases ha : a = i
            · right
              simp only [beq_eq_false_iff_ne]
              exact fun h => hac ⟨ha, h⟩
            · left
              simp only [beq_eq_false_iff_ne]
              exact ha
      rw [hkey]
      cases seen.contains x.born <;> cases (a == i && c == j) <;> rfl
    · intro a c hk
      have hk' : (left a c && !(a == i && c == j)) = true := hk
      rw [Bool.and_eq_true] at hk'
      exact hl2 a c hk'.1
    · rcases hal with rfl | rfl <;> exact ⟨rfl, rfl, rfl, by simp [setBlock], fun i _ hi => hset.2 i (fun e1 => hi (by rw [e1]))⟩
    · rcases hal with rfl | rfl <;> simp [setBlock]
theorem wpList_rng {P : Program} {w : World} {ops : Array Oper} {rest : List Oper} {o : Oper} {a : Act} {Q : Exit → Act → World → Prop}
    (hg : o.guard = none) (m : Operand) (t : TypeId) (hop : o.op = Op.range t m) (v1 : Value) (h1 : a.eval m = v1) {v : Value} {w' : World} (hrun : (Instr.range t v1).run P w = .ok v w')
    (hK : wpList P ops Q rest (a.put o.dst v) w') : wpList P ops Q (o :: rest) a w := by
  refine wpList_plain hg fun K hK' => ?_
  unfold Oper.wp
  simp [execOp, hop, h1, hrun, Result.andThen]
  exact hK' _ _ hK
theorem wpList_nxt {P : Program} {w : World} {ops : Array Oper} {rest : List Oper} {o : Oper} {a : Act} {Q : Exit → Act → World → Prop}
    (hg : o.guard = none) (m : Operand) (hop : o.op = Op.next m false) (v1 : Value) (h1 : a.eval m = v1) {v : Value} {w' : World} (hrun : (Instr.next v1 false o.type).run P w = .ok v w')
    (hK : wpList P ops Q rest (a.put o.dst v) w') : wpList P ops Q (o :: rest) a w := by
  refine wpList_plain hg fun K hK' => ?_
  unfold Oper.wp
  simp [execOp, hop, h1, hrun, Result.andThen]
  exact hK' _ _ hK
end Go.Proofs.Ytahjgdikjaakbaa
