/- What is proved: words for small maps of vectors. No condition beyond those in each statement. -/
import Derived.Test.YthnhmfmlhlpggaaO
import Derived.Maps.Keyed
import Derived.Maps.RangeWalk
import Derived.Maps.RangeRun
import Derived.Handy
namespace Go.Proofs.Ythnhmfmlhlpggaa
open Go.RowKit
open Go.ChangeMaps Go.MapKept Go.WideShapes
open Go.Maps (Keyed)
set_option maxRecDepth 100000

theorem wpList_rng {P : Program} {w : World} {ops : Array Oper} {rest : List Oper} {o : Oper} {a : Act} {Q : Exit → Act → World → Prop}
    (hg : o.guard = none) (m : Operand) (t : TypeId) (hop : o.op = Op.range t m) (v1 : Value) (h1 : a.eval m = v1) {v : Value} {w' : World} (hrun : (Instr.range t v1).run P w = .ok v w')
    (hK : wpList P ops Q rest (a.put o.dst v) w') : wpList P ops Q (o :: rest) a w := by
  refine wpList_plain hg fun K hK' => ?_
  unfold Oper.wp
  simp [execOp, hop, h1, hrun, Result.andThen]
  exact hK' _ _ hK
theorem wpList_nxt {P : Program} {w : World} {ops : Array Oper} {rest : List Oper} {o : Oper} {a : Act} {Q : Exit → Act → World → Prop}
    (hg : o.guard = none) (m : Operand) (hop : o.op = Op.next m false) (v1 : Value) (h1 : a.eval m = v1) {v : Value} {w' : World} (hrun : (Instr.next v1 false o.type).run P w = .ok v w')
    (hK : wpList P ops Q rest (a.put o.dst v) w') : wpList P ops Q (o :: rest) a w := by
  refine wpList_plain hg fun K hK' => ?_
  unfold Oper.wp
  simp [execOp, hop, h1, hrun, Result.andThen]
  exact hK' _ _ hK
theorem wpList_upd {P : Program} {w : World} {ops : Array Oper} {rest : List Oper} {o : Oper} {a : Act} {Q : Exit → Act → World → Prop}
    (hg : o.guard = none) (m k v : Operand) (t : TypeId) (hop : o.op = Op.mapUpdate t m k v ∨ o.op = Op.insert t m k v)
    (v1 v2 v3 : Value) (h1 : a.eval m = v1) (h2 : a.eval k = v2) (h3 : a.eval v = v3) {w' : World} (hrun : (Instr.mapUpdate t v1 v2 v3).run P w = .ok () w')
    (hK : wpList P ops Q rest (a.put o.dst undef) w') : wpList P ops Q (o :: rest) a w := by
  refine wpList_plain hg fun K hK' => ?_
  unfold Oper.wp
  rcases hop with hop | hop <;> (simp [execOp, hop, h1, h2, h3, hrun, Result.andThen]; exact hK' _ _ hK)
/-- The vectors that come up. -/
def kv : Nat → Value
  | 0 => .agg #[.int .i64 0, .int .i64 0, .int .i64 0]
  | 1 => .agg #[.int .i64 1, .int .i64 0, .int .i64 0]
  | _ => .agg #[.int .i64 0, .int .i64 1, .int .i64 0]
theorem kv_inj : ∀ i, i < 3 → ∀ j, j < 3 → kv i = kv j → i = j := by
  intro i hi j hj h
  have hi2 : i = 0 ∨ i = 1 ∨ i = 2 := by omega
  have hj2 : j = 0 ∨ j = 1 ∨ j = 2 := by omega
  rcases hi2 with rfl | rfl | rfl <;> rcases hj2 with rfl | rfl | rfl <;> first | rfl | (simp [kv] at h)
theorem laidOut : laidOutB Try.prog = true := by kernel_rfl
theorem row114 : (114 : Nat) < Try.prog.types.size := of_decide_eq_true (by kernel_rfl)
theorem law114 : Keyed Try.prog 114 := Keyed.of_law (deep_law_laid laidOut (m := 2) (by omega) row114 (by kernel_rfl) (by rw [Try.underlying114]))
theorem key114 : ∀ i, i < 3 → (keyOf Try.prog 114 (kv i)).isSome = true := by decide +kernel
theorem keyed {i : Nat} (h : i < 3) : ∃ l, keyOf Try.prog 114 (kv i) = some l := Option.isSome_iff_exists.1 (key114 i h)
/-- A map that has some of these vectors. -/
structure EsOk (es : Array MapEntry) (clock : Nat) (ks : List Nat) : Prop where
  k3 : ∀ k ∈ ks, k < 3
  el : es.toList.map (fun e => (e.key, e.val)) = ks.map fun k => (kv k, Value.bool true)
  bo : ∀ e ∈ es.toList, e.born < clock
def Mp (w : World) (m : Nat) (ks : List Nat) : Prop := ∃ es clock, w.heap[m]? = some (.map es clock) ∧ EsOk es clock ks
theorem Mp.lt {w : World} {m : Nat} {ks : List Nat} (h : Mp w m ks) : m < w.heap.size := by
  obtain ⟨es, clock, h, _⟩ := h
  exact (Array.getElem?_eq_some_iff.1 h).1
theorem Mp.same {w w' : World} {m : Nat} {ks : List Nat} (h : Mp w m ks) (e : w'.heap[m]? = w.heap[m]?) : Mp w' m ks := by
  obtain ⟨es, clock, h, k⟩ := h
  exact ⟨es, clock, e.trans h, k⟩
theorem Mp.below {w w' : World} {m : Nat} {ks : List Nat} (h : Mp w m ks) (hb : Below w.heap.size w w') : Mp w' m ks := h.same (hb.block _ h.lt)
theorem mp_new (w : World) : Mp (w.alloc (.map #[] 0)) w.heap.size [] := ⟨#[], 0, World.alloc_heap_new w _, ⟨by simp, rfl, by simp⟩⟩
theorem EsOk.mem {es : Array MapEntry} {clock : Nat} {ks : List Nat} (h : EsOk es clock ks) {e : MapEntry} (he : e ∈ es.toList) : ∃ k ∈ ks, e.key = kv k ∧ e.val = .bool true := by
  have : (e.key, e.val) ∈ ks.map fun k => (kv k, Value.bool true) := by rw [← h.el]; exact List.mem_map.2 ⟨e, he, rfl⟩
  obtain ⟨k, hk, e1⟩ := List.mem_map.1 this
  injection e1 with e1 e2
  exact ⟨k, hk, e1.symm, e2.symm⟩
theorem EsOk.keys {es : Array MapEntry} {clock : Nat} {ks : List Nat} (h : EsOk es clock ks) : ∀ e ∈ es.toList, ∃ l, keyOf Try.prog 114 e.key = some l := fun e he => by
  obtain ⟨k, hk, e1, _⟩ := h.mem he
  rw [e1]
  exact keyed (h.k3 k hk)
theorem setBlock_grown {w : World} {m : Nat} {es : Array MapEntry} {clock : Nat} (hb : w.heap[m]? = some (.map es clock)) (o : Obj) : w.grownBy (setBlock w m o) (some m) :=
  ⟨rfl, rfl, rfl, by simp [setBlock], fun a _ ha => heap_setBlock_other hb _ (fun e => ha (by rw [e]))⟩
theorem mp_insert {w : World} {m : Nat} {ks : List Nat} (h : Mp w m ks) {k : Nat} (hk : k < 3) (hn : k ∉ ks) : ∃ w', (Instr.mapUpdate 116 (.map (some m)) (kv k) (.bool true)).run Try.prog w = .ok () w' ∧ Mp w' m (ks ++ [k]) ∧ w.grownBy w' (some m) := by
  obtain ⟨es, clock, hb, hE⟩ := h
  obtain ⟨l, hkey⟩ := keyed hk
  rcases law114.find w hkey es.toList hE.keys with ⟨h1, h2⟩ | ⟨q, e0, h1, h2, h3⟩
  · refine ⟨setBlock w m (.map (es.push ⟨kv k, .bool true, clock⟩) (clock + 1)), ?_, ⟨_, _, heap_setBlock_same hb _, ⟨?_, ?_, ?_⟩⟩, setBlock_grown hb _⟩
    · simp [Instr.mapUpdate, run_underlying Try.underlying116, MapKept.run_getObj_map hb, law114.check w false hkey, h1, MapKept.run_setObj_map _ hb, Result.andThen, setBlock]
    · intro j hj
      rcases List.mem_append.1 hj with hj | hj
      · exact hE.k3 j hj
      · rw [List.mem_singleton] at hj; omega
    · rw [Array.toList_push, List.map_append, hE.el, List.map_append]; rfl
    · intro e he
      rw [Array.toList_push] at he
      rcases List.mem_append.1 he with he | he
      · have := hE.bo e he; omega
      · rw [List.mem_singleton] at he; subst he; exact Nat.lt_succ_self _
  · exfalso
    obtain ⟨j, hj, e1, _⟩ := hE.mem (List.mem_of_getElem? h2)
    have := kv_inj j (hE.k3 j hj) k hk (e1.symm.trans h3)
    subst this
    exact hn hj
theorem mp_lookup {w : World} {m : Nat} {ks : List Nat} (h : Mp w m ks) {k : Nat} (hk : k < 3) : (Instr.lookup 116 (.map (some m)) (kv k) false).run Try.prog w = .ok (.bool (decide (k ∈ ks))) w := by
  obtain ⟨es, clock, hb, hE⟩ := h
  obtain ⟨l, hkey⟩ := keyed hk
  rcases law114.find w hkey es.toList hE.keys with ⟨h1, h2⟩ | ⟨q, e0, h1, h2, h3⟩
  · have hn : k ∉ ks := by
      intro hm
      have : (kv k, Value.bool true) ∈ es.toList.map fun e => (e.key, e.val) := by rw [hE.el]; exact List.mem_map.2 ⟨k, hm, rfl⟩
      obtain ⟨e, he, e1⟩ := List.mem_map.1 this
      injection e1 with e1 _
      exact h2 e he e1
    rw [decide_eq_false hn]
    simp [Instr.lookup, run_underlying Try.underlying116, MapKept.run_getObj_map hb, law114.check w _ hkey, h1, Result.andThen]
  · obtain ⟨j, hj, e1, e2⟩ := hE.mem (List.mem_of_getElem? h2)
    have := kv_inj j (hE.k3 j hj) k hk (e1.symm.trans h3)
    subst this
    rw [decide_eq_true hj]
    simp [Instr.lookup, run_underlying Try.underlying116, MapKept.run_getObj_map hb, law114.check w _ hkey, h1, e2, Result.andThen]
theorem mp_len {w : World} {m : Nat} {ks : List Nat} (h : Mp w m ks) (ty : TypeId) : (Builtin.len_ #[116] ty #[.map (some m)]).run Try.prog w = .ok (.int .i64 ks.length) w := by
  obtain ⟨es, clock, hb, hE⟩ := h
  have : es.size = ks.length := by
    have := congrArg List.length hE.el
    rw [List.length_map, List.length_map, Array.length_toList] at this
    exact this
  rw [← this]
  simp [Builtin.len_, run_underlying Try.underlying116, MapKept.run_getObj_map hb, Result.andThen, goInt]
/-- A range over a map of at most one vector: what is still to come. -/
def Rg (w : World) (m r : Nat) (ks left : List Nat) : Prop :=
  ∃ es clock since seen c0, w.heap[m]? = some (.map es clock) ∧ EsOk es clock ks ∧ w.heap[r]? = some (.mapIter (some m) since seen c0) ∧ since ≤ c0 ∧ (∀ e ∈ es.toList, e.born < since) ∧
    ((ks = left ∧ seen = #[] ∧ c0 = clock) ∨ (left = [] ∧ ∀ e ∈ es.toList, seen.contains e.born = true))
theorem Rg.mp {w : World} {m r : Nat} {ks left : List Nat} (h : Rg w m r ks left) : Mp w m ks := by
  obtain ⟨es, clock, since, seen, c0, h1, h2, _⟩ := h
  exact ⟨es, clock, h1, h2⟩
theorem Rg.lt {w : World} {m r : Nat} {ks left : List Nat} (h : Rg w m r ks left) : m < w.heap.size ∧ r < w.heap.size ∧ r ≠ m := by
  obtain ⟨es, clock, since, seen, c0, h1, h2, h3, _⟩ := h
  refine ⟨(Array.getElem?_eq_some_iff.1 h1).1, (Array.getElem?_eq_some_iff.1 h3).1, ?_⟩
  rintro rfl
  rw [h1] at h3
  cases h3
theorem Rg.same {w w' : World} {m r : Nat} {ks left : List Nat} (h : Rg w m r ks left) (e1 : w'.heap[m]? = w.heap[m]?) (e2 : w'.heap[r]? = w.heap[r]?) : Rg w' m r ks left := by
  obtain ⟨es, clock, since, seen, c0, h1, h2, h3, rest⟩ := h
  exact ⟨es, clock, since, seen, c0, e1.trans h1, h2, e2.trans h3, rest⟩
theorem Rg.below {w w' : World} {m r : Nat} {ks left : List Nat} (h : Rg w m r ks left) (hb : Below w.heap.size w w') : Rg w' m r ks left := h.same (hb.block _ h.lt.1) (hb.block _ h.lt.2.1)
theorem rg_start {w : World} {m : Nat} {ks : List Nat} (h : Mp w m ks) : ∃ w', (Instr.range 116 (.map (some m))).run Try.prog w = .ok (.pointer (some ⟨w.heap.size, 0, none⟩)) w' ∧ Rg w' m w.heap.size ks ks ∧ Below w.heap.size w w' ∧ w'.heap.size = w.heap.size + 1 := by
  have hlt := h.lt
  obtain ⟨es, clock, hb, hE⟩ := h
  exact ⟨_, run_range_map w 116 114 4 m es clock Try.underlying116 hb, ⟨es, clock, clock, #[], clock, (Below.heap_alloc _ _ _ hlt).trans hb, hE, World.alloc_heap_new w _, Nat.le_refl _, hE.bo, .inl ⟨rfl, rfl, rfl⟩⟩, (Below.refl _ _).alloc (Nat.le_refl _) _, by simp⟩
theorem rg_over {w : World} {m r : Nat} {ks : List Nat} (h : Rg w m r ks []) (ty : TypeId) : (Instr.next (.pointer (some ⟨r, 0, none⟩)) false ty).run Try.prog w = .ok (.tuple #[.bool false]) w := by
  obtain ⟨es, clock, since, seen, c0, h1, h2, h3, h4, h5, h6⟩ := h
  rcases run_next_at (P := Try.prog) w ty r m since c0 seen es clock h3 h1 h5 h4 with ⟨_, hrun⟩ | ⟨e, he, _⟩
  · exact hrun
  · exfalso
    unfold leftOf at he
    simp at he
    obtain ⟨hm, hs⟩ := he
    rcases h6 with ⟨rfl, rfl, _⟩ | ⟨_, h6⟩
    · have := h2.el
      simp at this
      subst this
      simp at hm
    · have := h6 e (by simpa using hm)
      simp at this
      exact hs this
theorem rg_one {w : World} {m r : Nat} {k : Nat} (h : Rg w m r [k] [k]) (ty : TypeId) : ∃ w', (Instr.next (.pointer (some ⟨r, 0, none⟩)) false ty).run Try.prog w = .ok (.tuple #[.bool true, kv k, .bool true]) w' ∧ Rg w' m r [k] [] ∧ w.grownBy w' (some r) ∧ w'.heap.size = w.heap.size ∧
    (Instr.entry (.pointer (some ⟨r, 0, none⟩))).run Try.prog w' = .ok (.tuple #[kv k, .bool true]) w' := by
  have hne := h.lt.2.2
  obtain ⟨es, clock, since, seen, c0, h1, h2, h3, h4, h5, h6⟩ := h
  obtain ⟨rfl, rfl⟩ : seen = #[] ∧ c0 = clock := by
    rcases h6 with ⟨_, h⟩ | ⟨h, _⟩
    · exact h
    · cases h
  obtain ⟨l⟩ := es
  obtain ⟨e, rfl⟩ : ∃ e, l = [e] := by
    have := congrArg List.length h2.el
    simp at this
    exact List.length_eq_one_iff.1 this
  have hkv : e.key = kv k ∧ e.val = .bool true := by
    have := h2.el
    simp at this
    exact this
  rcases run_next_at (P := Try.prog) w ty r m since c0 #[] _ c0 h3 h1 h5 h4 with ⟨h0, _⟩ | ⟨e', he, w1, hal, hrun⟩
  · exfalso
    unfold leftOf at h0
    simp at h0
  · obtain rfl : e' = e := by
      unfold leftOf at he
      simp at he
      exact he
    have hr1 : w1.heap[r]? = some (.mapIter (some m) since #[] c0) := by rcases hal with rfl | rfl <;> exact h3
    have hb1 : w1.heap[m]? = some (.map #[e'] c0) := by rcases hal with rfl | rfl <;> exact h1
    obtain ⟨hset1, hset2⟩ := heap_set (o' := .mapIter (some m) since ((#[] : Array Nat).push e'.born) c0) hr1
    have hb' : (setBlock w1 r (.mapIter (some m) since ((#[] : Array Nat).push e'.born) c0)).heap[m]? = some (.map #[e'] c0) := (hset2 m (fun e1 => hne e1.symm)).trans hb1
    have hen := run_entry_at (P := Try.prog) _ r m since #[] _ c0 e' hset1 hb' (by simp) (by simp)
    rw [hkv.1, hkv.2] at hrun hen
    refine ⟨_, hrun, ⟨#[e'], c0, since, _, c0, hb', h2, hset1, h4, h5, .inr ⟨rfl, by simp⟩⟩, ?_, ?_, hen⟩
    · have hos : w1.os = w.os ∧ w1.tape = w.tape ∧ w1.output = w.output ∧ w1.heap = w.heap := by rcases hal with rfl | rfl <;> exact ⟨rfl, rfl, rfl, rfl⟩
      refine ⟨hos.1, hos.2.1, hos.2.2.1, by simp [setBlock, hos.2.2.2], fun a ha hne2 => ?_⟩
      exact (hset2 a (fun e => hne2 (by rw [e]))).trans (by rw [hos.2.2.2])
    · have : w1.heap = w.heap := by rcases hal with rfl | rfl <;> rfl
      simp [setBlock, this]
end Go.Proofs.Ythnhmfmlhlpggaa
