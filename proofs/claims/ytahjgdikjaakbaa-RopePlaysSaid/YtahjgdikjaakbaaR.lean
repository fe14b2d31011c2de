/- What is proved: slices.Clone, those, Inside, Waiting, Known. No condition beyond those in each statement. -/
import Derived.Test.YtahjgdikjaakbaaP
import Derived.Maps.RangeRun
import Derived.Maps.Range
namespace Go.Proofs.Ytahjgdikjaakbaa
open Go.RowKit

set_option maxHeartbeats 2000000 in
theorem cloneI_calls {w : World} {v : Value} {xs : List Int} (h : Sl1 w 3 v (intsV xs)) (hx : xs.length ≤ 1000) :
    Calls Try.prog 43 #[v] w fun e w' => ∃ v', e = .returned v' ∧ Ow w' w.heap.size v' xs ∧ Below w.heap.size w w' := by
  have qT : ∀ (w : World) (a : Option Addr) (n c n' c' : Nat), (binOp .eql 36 (.slice a n c) (.slice none n' c')).run Try.prog w = .ok (.bool a.isNone) w := fun w a n c n' c' => Lib.run_eql_slice_nil w _ _ a n c n' c' Try.underlying36
  rcases h with ⟨rfl, e⟩ | ⟨g, off, c, rfl, hr⟩
  · have hq : xs = [] := by simpa [intsV] using e
    subst hq
    clear e hx
    unfold nilV
    go_enter Try.func43, Try.ntmps43
    go_wp2_with fail
    go_ret
    exact ⟨_, rfl, ⟨rfl, .inl ⟨rfl, rfl⟩⟩, Below.refl _ _⟩
  · rw [intsV_len]
    obtain ⟨i0, hi, hz0, hz1, hz2⟩ := info_parts info3
    have h0 := ow_new w w.heap.size (Nat.le_refl _)
    have hb0 : Below w.heap.size w (w.alloc (.cells #[] 3)) := (Below.refl _ _).alloc (Nat.le_refl _) _
    have hr0 := hr.same (hb0.block g hr.lt)
    obtain ⟨v', w', hrun, r1, r2, r3⟩ := run_append_own (P := Try.prog) (w.alloc (.cells #[] 3)) w.heap.size 36 36 3 i0 (.int .i64 0) 1 8 Try.underlying36 hi hz0 hz1 hz2 rfl (by decide) _ 0 [] h0 ⟨g, off, none⟩ xs.length c (intsV xs) (by rw [intsV_len, Nat.mul_one]) (by
          intro j u hj
          obtain ⟨hj1, hj2⟩ := List.getElem?_eq_some_iff.1 hj
          rw [addr_add, hr0.at j hj1, hj2]) (by simp [intsV, Value.oneCell']) (by simp [maxLen]; omega) (by omega) (by simp)
    have hB : Below w.heap.size w w' := hb0.grown r2 (by simp) (fun k hk => (World.ownsRow.lt h0 k hk).1)
    have hO : Ow w' w.heap.size v' xs := by
      unfold Ow
      simpa [intsV] using r1
    have HRUN := Lib.hid hrun
    have HO := Lib.hid hO
    have HB := Lib.hid hB
    clear hi hz0 hz1 hz2 h0 hb0 hrun r1 r2 r3 hB hO hr hr0
    go_enter Try.func43, Try.ntmps43
    go_wp2_with (at_builtin; refine wpList_app rfl (.tmp 5) (.tmp 6) 36 36 rfl rfl _ _ rfl rfl HRUN.out ?_)
    go_ret
    exact ⟨_, rfl, HO.out, HB.out⟩
def thoseF (ms : List Int) (m : Int) : Nat → List Int
  | 0 => []
  | k + 1 => if ms.getD k 0 = m then thoseF ms m k ++ [(k : Int)] else thoseF ms m k
theorem thoseF_len (ms : List Int) (m : Int) (k : Nat) : (thoseF ms m k).length ≤ k := by
  induction k with
  | zero => exact Nat.le_refl _
  | succ k ih =>
    unfold thoseF
    split
    · rw [List.length_append, List.length_singleton]; omega
    · omega
def ThRel (w : World) (s : LS) (m : Int) (u5 u13 : Value) (wr : World) : Prop := ∃ k : Nat, u13 = .int .i64 k ∧ k ≤ s.n ∧ Ow wr w.heap.size u5 (thoseF s.mood m k) ∧ Below w.heap.size w wr
theorem ow_nil (w : World) (b : Nat) : Ow w b (.slice none 0 0) [] := ⟨rfl, .inl ⟨rfl, rfl⟩⟩
set_option maxHeartbeats 4000000 in
theorem those_calls {w : World} {T : Nat} {s : LS} (h : Low w T s) (m : Int) : Calls Try.prog 42 #[.pointer (some ⟨T, 0, none⟩), .int .i64 m] w fun e w' => ∃ v, e = .returned v ∧ Ow w' w.heap.size v (thoseF s.mood m s.n) ∧ Below w.heap.size w w' := by
  have c0 := h.cells.1
  have hn6 := h.hn
  have H := Lib.hid h
  clear h
  go_enter Try.func42, Try.ntmps42
  go_wp2_with fail
  go_loopw [5, 13] (fun u5 u13 wr => ThRel w s m u5 u13 wr) (fun _ u13 _ => s.n - (intOf u13).toNat)
  case atStart => exact ⟨0, rfl, Nat.zero_le _, ow_nil _ _, Below.refl _ _⟩
  case round =>
    obtain ⟨k, rfl, hk, ho, hb⟩ := hrel
    have HO := Lib.hid ho
    have HB := Lib.hid hb
    by_cases hlt : k < s.n
    · have hL := H.out.below hb
      obtain ⟨d1, d2⟩ := hL.cR hlt
      obtain ⟨x, hx⟩ : ∃ x, x = s.mood.getD k 0 := ⟨_, rfl⟩
      rw [← hx] at d2
      obtain ⟨W, hW⟩ : ∃ W, W = wr.alloc (.cells #[.slice (some ⟨s.K k, 0, none⟩) s.n (s.Kc k), .int .i64 x] 77) := ⟨_, rfl⟩
      have hbW : Below wr.heap.size wr W := by rw [hW]; exact (Below.refl _ _).alloc (Nat.le_refl _) _
      have hoW := ho.below hbW
      have hbW2 := hb.trans (hbW.mono hb.size)
      obtain ⟨A, n', c', w5, hrun, ho5, hb5⟩ := ow_push (k : Int) hoW hbW2.size (by have := thoseF_len s.mood m k; omega)
      have hsz : W.heap.size = wr.heap.size + 1 := by rw [hW]; simp
      rw [hsz, hW] at hrun
      have HX := Lib.hid hx
      have HWW := Lib.hid hW
      have HRUN := Lib.hid hrun
      have HO5 := Lib.hid ho5
      have HB5 := Lib.hid (hbW2.trans hb5)
      have HOW := Lib.hid hoW
      have HBW := Lib.hid hbW2
      have z1 : (0 : Int) ≤ (k : Int) ∧ (k : Int) < s.n := by omega
      clear c0 hL hx hW hbW hoW hbW2 hrun ho5 hb5 ho hb hsz
      by_cases hxm : x = m
      · subst hxm
        go_wp2_with (at_builtin; refine wpList_app rfl (.tmp 22) (.tmp 24) 36 36 rfl rfl _ _ rfl rfl HRUN.out ?_)
        go_roundw
        case rel => exact ⟨k + 1, by go_num, by omega, by unfold thoseF; rw [if_pos HX.out.symm]; exact HO5.out, HB5.out⟩
        case measure => simp [intOf]; omega
      · go_wp2_with fail
        have hW := HWW.out
        rw [← hW]
        go_roundw
        case rel => exact ⟨k + 1, by go_num, by omega, by unfold thoseF; rw [if_neg (fun e => hxm (HX.out.trans e))]; exact HOW.out, HBW.out⟩
        case measure => simp [intOf]; omega
    · have hkn : k = s.n := by omega
      subst hkn
      clear ho hb
      go_wp2_with fail
      go_ret
      exact ⟨_, rfl, HO.out, HB.out⟩
theorem known_calls {w : World} {T i : Nat} {s : LS} (h : Low w T s) (hi : i < s.n) : Calls Try.prog 26 #[.pointer (some ⟨T, 0, none⟩), .int .i64 i] w fun e w' => ∃ v, e = .returned v ∧ Ow w' w.heap.size v (s.known.getD i []) ∧ Below w.heap.size w w' := by
  have C1 := Lib.hid (check_in h hi)
  have c0 := h.cells.1
  have c1 := (h.cR hi).1
  have hn := h.hn
  have CC := Lib.hid (cloneI_calls (w := w) (v := .slice (some ⟨s.K i, 0, none⟩) s.n (s.Kc i)) (xs := s.known.getD i []) (.inr ⟨s.K i, 0, s.Kc i, by rw [intsV_len, h.lki i hi], h.hK i hi⟩) (by rw [h.lki i hi]; omega))
  have z1 : (0 : Int) ≤ (i : Int) ∧ (i : Int) < s.n := by omega
  clear h
  go_enter Try.func26, Try.ntmps26
  go_wp2_with fail
  refine C1.out.mono ?_
  rintro e w1 ⟨rfl, rfl⟩
  go_wp2_with fail
  refine CC.out.mono ?_
  rintro e w1 ⟨v, rfl, ho, hb⟩
  have HO := Lib.hid ho
  have HB := Lib.hid hb
  clear ho hb
  go_wp2_with fail
  go_ret
  exact ⟨_, rfl, HO.out, HB.out⟩
theorem known_out {w : World} {T : Nat} {i : Int} {s : LS} (h : Low w T s) (hi : thereB s.n i = false) : Calls Try.prog 26 #[.pointer (some ⟨T, 0, none⟩), .int .i64 i] w fun e w' => e = .returned nilV ∧ w = w' := by
  have C1 := Lib.hid (check_out h hi)
  clear h hi
  go_enter Try.func26, Try.ntmps26
  go_wp2_with fail
  refine C1.out.mono ?_
  rintro e w1 ⟨rfl, rfl⟩
  go_wp2_with fail
  go_ret
  exact ⟨rfl, rfl⟩
theorem waiting_calls {w : World} {T : Nat} {s : LS} (h : Low w T s) : Calls Try.prog 21 #[.pointer (some ⟨T, 0, none⟩)] w fun e w' => ∃ v, e = .returned v ∧ Ow w' w.heap.size v (thoseF s.mood 1 s.n) ∧ Below w.heap.size w w' := by
  have C1 := Lib.hid (made_calls h)
  have C2 := Lib.hid (those_calls h 1)
  clear h
  go_enter Try.func21, Try.ntmps21
  go_wp2_with fail
  refine C1.out.mono ?_
  rintro e w1 ⟨rfl, rfl⟩
  go_wp2_with fail
  refine C2.out.mono ?_
  rintro e w1 ⟨v, rfl, ho, hb⟩
  have HO := Lib.hid ho
  have HB := Lib.hid hb
  clear ho hb
  go_wp2_with fail
  go_ret
  exact ⟨_, rfl, HO.out, HB.out⟩
def headF (l : List Int) : Int := l.headD (-1)
theorem inside_calls {w : World} {T : Nat} {s : LS} (h : Low w T s) : Calls Try.prog 18 #[.pointer (some ⟨T, 0, none⟩)] w fun e w' => e = .returned (.int .i64 (headF (thoseF s.mood 2 s.n))) ∧ Below w.heap.size w w' := by
  have C1 := Lib.hid (made_calls h)
  have C2 := Lib.hid (those_calls h 2)
  have hn := h.hn
  have hl := thoseF_len s.mood 2 s.n
  obtain ⟨l, hl2⟩ : ∃ l, l = thoseF s.mood 2 s.n := ⟨_, rfl⟩
  rw [← hl2] at C2 hl ⊢
  clear h hl2
  go_enter Try.func18, Try.ntmps18
  go_wp2_with fail
  refine C1.out.mono ?_
  rintro e w1 ⟨rfl, rfl⟩
  go_wp2_with fail
  refine C2.out.mono ?_
  rintro e w1 ⟨v, rfl, ho, hb⟩
  have HB := Lib.hid hb
  obtain ⟨A, c, rfl, hlc, hc, _, hrd⟩ := ho.sl
  clear ho hb
  cases l with
  | nil =>
    simp only [List.length_nil]
    clear hrd
    go_wp2_with fail
    go_ret
    exact ⟨rfl, HB.out⟩
  | cons x r =>
    obtain ⟨b, o, rfl, hb, hcell⟩ := hrd (by simp)
    have c1 : w1.cell? ⟨b, o, none⟩ = some (.int .i64 x) := hcell 0 (by simp)
    have hlen : (0 : Int) < (r.length : Int) + 1 := by omega
    simp only [List.length_cons] at hlc hl ⊢
    clear hcell hrd hb
    go_wp2_with fail
    go_ret
    exact ⟨rfl, HB.out⟩
end Go.Proofs.Ytahjgdikjaakbaa

namespace Go.Proofs.Ytahjgdikjaakbaa
open Go.RowKit
open Go.ChangeMaps Go.MapKept Go.WideShapes

/-- A range over such a map, under way: which entries are still to come. -/
def FlR (w : World) (b r n : Nat) (f : Nat → Nat → Value) (left : Nat → Nat → Bool) (cnt : Nat) : Prop :=
  ∃ es clock since seen c0, w.heap[b]? = some (.map es clock) ∧ FlE n f es clock ∧ w.heap[r]? = some (.mapIter (some b) since seen c0) ∧ (∀ x ∈ es.toList, x.born < since) ∧ since ≤ c0 ∧ since ≤ clock ∧ (leftOf es seen).size = cnt ∧
    (∀ x ∈ es.toList, ∀ i j, x.key = keyV i j → left i j = !seen.contains x.born) ∧ (∀ i j, left i j = true → ∃ x ∈ es.toList, x.key = keyV i j)
def flLeft (w : World) (b r : Nat) : Nat :=
  match w.heap[b]?, w.heap[r]? with
  | some (.map es _), some (.mapIter _ _ seen _) => (leftOf es seen).size
  | _, _ => 0
theorem FlR.left_eq {w : World} {b r n : Nat} {f : Nat → Nat → Value} {left : Nat → Nat → Bool} {cnt : Nat} (h : FlR w b r n f left cnt) : flLeft w b r = cnt := by
  obtain ⟨es, clock, since, seen, c0, hb, _, hr, _, _, _, hc, _⟩ := h
  simp only [flLeft, hb, hr]
  exact hc
theorem FlR.lt {w : World} {b r n : Nat} {f : Nat → Nat → Value} {left : Nat → Nat → Bool} {cnt : Nat} (h : FlR w b r n f left cnt) : b < w.heap.size ∧ r < w.heap.size := by
  obtain ⟨es, clock, since, seen, c0, hb, _, hr, _⟩ := h
  exact ⟨(Array.getElem?_eq_some_iff.1 hb).1, (Array.getElem?_eq_some_iff.1 hr).1⟩
theorem FlR.same {w w' : World} {b r n : Nat} {f : Nat → Nat → Value} {left : Nat → Nat → Bool} {cnt : Nat} (h : FlR w b r n f left cnt) (e1 : w'.heap[b]? = w.heap[b]?) (e2 : w'.heap[r]? = w.heap[r]?) : FlR w' b r n f left cnt := by
  obtain ⟨es, clock, since, seen, c0, hb, hE, hr, rest⟩ := h
  exact ⟨es, clock, since, seen, c0, e1.trans hb, hE, e2.trans hr, rest⟩
theorem FlR.below {w w' : World} {b r n : Nat} {f : Nat → Nat → Value} {left : Nat → Nat → Bool} {cnt : Nat} (h : FlR w b r n f left cnt) (hb : Below w.heap.size w w') : FlR w' b r n f left cnt :=
  h.same (hb.block _ h.lt.1) (hb.block _ h.lt.2)
theorem fl_range {w : World} {b n : Nat} {f : Nat → Nat → Value} (h : FlAt w b n f) : ∃ left cnt w', (Instr.range 62 (.map (some b))).run Try.prog w = .ok (.pointer (some ⟨w.heap.size, 0, none⟩)) w' ∧ FlR w' b w.heap.size n f left cnt ∧ Below w.heap.size w w' ∧ (∀ i j, i < n → j < n → left i j = false → f i j = nilV) := by
  classical
  obtain ⟨es, clock, hb, hE⟩ := h
  have hlt : b < w.heap.size := (Array.getElem?_eq_some_iff.1 hb).1
  refine ⟨fun i j => es.toList.any fun x => decide (x.key = keyV i j), _, _, run_range_map w 62 68 67 b es clock Try.underlying62 hb, ⟨es, clock, clock, #[], clock, (Below.heap_alloc _ _ _ hlt).trans hb, hE, ?_, hE.1.1, Nat.le_refl _, Nat.le_refl _, rfl, ?_, ?_⟩, (Below.refl _ _).alloc (Nat.le_refl _) _, ?_⟩
  · exact World.alloc_heap_new w _
  · intro x hx i j hk
    have : (es.toList.any fun x => decide (x.key = keyV i j)) = true := List.any_eq_true.2 ⟨x, hx, decide_eq_true hk⟩
    show (es.toList.any fun x => decide (x.key = keyV i j)) = _
    rw [this]
    simp
  · intro i j h
    obtain ⟨x, hx, e⟩ := List.any_eq_true.1 h
    exact ⟨x, hx, of_decide_eq_true e⟩
  · intro i j hi hj h
    refine hE.2.2 i j hi hj fun x hx e => ?_
    have : (es.toList.any fun x => decide (x.key = keyV i j)) = true := List.any_eq_true.2 ⟨x, hx, decide_eq_true e⟩
    have h' : (es.toList.any fun x => decide (x.key = keyV i j)) = false := h
    rw [this] at h'
    cases h'
theorem fl_next {w : World} {b r n : Nat} {f : Nat → Nat → Value} {left : Nat → Nat → Bool} {cnt : Nat} (h : FlR w b r n f left cnt) (ty : TypeId) :
    (cnt = 0 ∧ (∀ i j, left i j = false) ∧ (Instr.next (.pointer (some ⟨r, 0, none⟩)) false ty).run Try.prog w = .ok (.tuple #[.bool false]) w) ∨
    ∃ i j w' cnt', i < n ∧ j < n ∧ left i j = true ∧ (Instr.next (.pointer (some ⟨r, 0, none⟩)) false ty).run Try.prog w = .ok (.tuple #[.bool true, keyV i j, f i j]) w' ∧
      FlR w' b r n f (fun x y => left x y && !(x == i && y == j)) cnt' ∧ cnt' < cnt ∧ w.grownBy w' (some r) ∧ w'.heap.size = w.heap.size ∧ (Instr.entry (.pointer (some ⟨r, 0, none⟩))).run Try.prog w' = .ok (.tuple #[keyV i j, f i j]) w' := by
  obtain ⟨es, clock, since, seen, c0, hb, hE, hr, hold, hsc, hsk, rfl, hl1, hl2⟩ := h
  have hne : r ≠ b := by
    rintro rfl
    rw [hb] at hr
    cases hr
  rcases run_next_at (P := Try.prog) w ty r b since c0 seen es clock hr hb hold hsc with ⟨h0, hrun⟩ | ⟨e, he, w1, hal, hrun⟩
  · refine Or.inl ⟨h0, fun i j => ?_, hrun⟩
    cases hk : left i j
    · rfl
    · obtain ⟨x, hx, ek⟩ := hl2 i j hk
      rw [hl1 x hx i j ek, all_seen es seen h0 x hx] at hk
      cases hk
  · obtain ⟨hem, hes⟩ := mem_left he
    obtain ⟨i, j, hi, hj, ek, ev⟩ := hE.2.1 e hem
    have hr1 : w1.heap[r]? = some (.mapIter (some b) since seen c0) := by rcases hal with rfl | rfl <;> exact hr
    have hb1 : w1.heap[b]? = some (.map es clock) := by rcases hal with rfl | rfl <;> exact hb
    have hset := heap_set (o' := .mapIter (some b) since (seen.push e.born) clock) hr1
    have hb' : (setBlock w1 r (.mapIter (some b) since (seen.push e.born) clock)).heap[b]? = some (.map es clock) := (hset.2 b (fun e1 => hne e1.symm)).trans hb1
    have hen := run_entry_at (P := Try.prog) _ r b since seen es clock e hset.1 hb' hem hE.1.2.1
    rw [ek, ev] at hrun hen
    refine Or.inr ⟨i, j, _, _, hi, hj, ?_, hrun, ⟨es, clock, since, seen.push e.born, clock, hb', hE, hset.1, hold, hsk, hsk, rfl, ?_, ?_⟩, left_shrinks es seen e he, ?_, ?_, hen⟩
    · rw [hl1 e hem i j ek, hes]; rfl
    · intro x hx a c hk
      show (left a c && !(a == i && c == j)) = _
      rw [hl1 x hx a c hk, contains_push]
      have hkey : (x.born == e.born) = (a == i && c == j) := by
        by_cases hxe : x.born = e.born
        · have := born_inj hE.1.2.1 hx hem hxe
          subst this
          obtain ⟨e1, e2⟩ := keyV_inj (hk.symm.trans ek)
          subst e1 e2
          simp
        · have h1 : (x.born == e.born) = false := by simp [hxe]
          rw [h1]
          by_cases hac : a = i ∧ c = j
          · obtain ⟨rfl, rfl⟩ := hac
            exfalso
            have hxe' : x = e := by
              have hnd := hE.1.2.2
              obtain ⟨p, hp, e1⟩ := List.mem_iff_getElem.1 hx
              obtain ⟨q, hq, e2⟩ := List.mem_iff_getElem.1 hem
              have : (es.toList.map (·.key))[p]'(by simpa using hp) = (es.toList.map (·.key))[q]'(by simpa using hq) := by
                simp only [List.getElem_map, e1, e2, hk, ek]
              have := (List.getElem_inj hnd).1 this
              subst this
              rw [← e1, ← e2]
            exact hxe (by rw [hxe'])
          · symm
            rw [Bool.and_eq_false_iff]
            by_cases ha : a = i
            · right
              simp only [beq_eq_false_iff_ne]
              exact fun h => hac ⟨ha, h⟩
            · left
              simp only [beq_eq_false_iff_ne]
              exact ha
      rw [hkey]
      cases seen.contains x.born <;> cases (a == i && c == j) <;> rfl
    · intro a c hk
      have hk' : (left a c && !(a == i && c == j)) = true := hk
      rw [Bool.and_eq_true] at hk'
      exact hl2 a c hk'.1
    · rcases hal with rfl | rfl <;> exact ⟨rfl, rfl, rfl, by simp [setBlock], fun i _ hi => hset.2 i (fun e1 => hi (by rw [e1]))⟩
    · rcases hal with rfl | rfl <;> simp [setBlock]
theorem wpList_rng {P : Program} {w : World} {ops : Array Oper} {rest : List Oper} {o : Oper} {a : Act} {Q : Exit → Act → World → Prop}
    (hg : o.guard = none) (m : Operand) (t : TypeId) (hop : o.op = Op.range t m) (v1 : Value) (h1 : a.eval m = v1) {v : Value} {w' : World} (hrun : (Instr.range t v1).run P w = .ok v w')
    (hK : wpList P ops Q rest (a.put o.dst v) w') : wpList P ops Q (o :: rest) a w := by
  refine wpList_plain hg fun K hK' => ?_
  unfold Oper.wp
  simp [execOp, hop, h1, hrun, Result.andThen]
  exact hK' _ _ hK
theorem wpList_nxt {P : Program} {w : World} {ops : Array Oper} {rest : List Oper} {o : Oper} {a : Act} {Q : Exit → Act → World → Prop}
    (hg : o.guard = none) (m : Operand) (hop : o.op = Op.next m false) (v1 : Value) (h1 : a.eval m = v1) {v : Value} {w' : World} (hrun : (Instr.next v1 false o.type).run P w = .ok v w')
    (hK : wpList P ops Q rest (a.put o.dst v) w') : wpList P ops Q (o :: rest) a w := by
  refine wpList_plain hg fun K hK' => ?_
  unfold Oper.wp
  simp [execOp, hop, h1, hrun, Result.andThen]
  exact hK' _ _ hK
end Go.Proofs.Ytahjgdikjaakbaa
