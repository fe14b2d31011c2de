/- What is proved: New. No condition beyond those in each statement. -/
import Derived.Test.YtahjgdikjaakbaaU
import Derived.Deep.RegionLaw
namespace Go.Proofs.Ytahjgdikjaakbaa
open Go.RowKit

def zerosV (n : Nat) : List Value := intsV (List.replicate n 0)
theorem zerosV_len (n : Nat) : (zerosV n).length = n := by simp [zerosV, intsV]
theorem made_row (n : Nat) (hn : n ≤ 1000) (w : World) : ∃ w', (Instr.makeSlice 36 (.int .i64 n) (.int .i64 n)).run Try.prog w = .ok (.slice (some ⟨w.heap.size, 0, none⟩) n n) w' ∧ Row w' 3 w.heap.size 0 n (zerosV n) ∧ w.grownBy w' none ∧ w'.heap.size = w.heap.size + 1 := by
  obtain ⟨i0, hi, hz0, hz1, hz2⟩ := info_parts info3
  obtain ⟨w0, hmk, hown, hgrow⟩ := run_make_full (P := Try.prog) w w.heap.size 36 3 i0 (.int .i64 0) 1 Try.underlying36 hi hz0 hz1 .i64 .i64 n (by rw [hz2]; omega) (by simp [maxLen]; omega) (Nat.le_refl _)
  have : (madeCells (Value.int .i64 0).cells (n * 1)).toList = zerosV n := by
    show (madeCells #[.int .i64 0] (n * 1)).toList = _
    rw [toList_madeCells_one]; simp [zerosV, intsV]
  rw [this] at hown
  have hr := run_make (P := Try.prog) w 36 3 i0 (.int .i64 0) Try.underlying36 hi hz0 .i64 .i64 n n (by omega) (Int.le_refl _) (by rw [hz2]; omega) (by omega)
  rw [hmk] at hr
  have hsz : w0.heap.size = w.heap.size + 1 := by
    injection hr with _ hr
    rw [hr]; simp
  refine ⟨w0, hmk, ?_, hgrow, hsz⟩
  rcases hown.2 with ⟨e, _⟩ | ⟨g, cap, cur, e, hb, hg, h1, h2, h3, h4⟩
  · cases e
  · cases e
    refine ⟨cur, hg, by rw [zerosV_len]; exact Nat.le_refl _, h2, by omega, ?_⟩
    rw [zerosV_len, List.drop_zero, ← h4, Nat.mul_one]
theorem made_all (n : Nat) (hn : n ≤ 1000) : ∃ Z : Array Value, Z.toList = zerosV n ∧ ∀ w, (Instr.makeSlice 36 (.int .i64 n) (.int .i64 n)).run Try.prog w = .ok (.slice (some ⟨w.heap.size, 0, none⟩) n n) (w.alloc (.cells Z 3)) := by
  obtain ⟨i0, hi, hz0, hz1, hz2⟩ := info_parts info3
  refine ⟨madeCells #[.int .i64 0] n, by rw [toList_madeCells_one]; simp [zerosV, intsV], fun w => ?_⟩
  have hr := run_make (P := Try.prog) w 36 3 i0 (.int .i64 0) Try.underlying36 hi hz0 .i64 .i64 n n (by omega) (Int.le_refl _) (by rw [hz2]; omega) (by omega)
  rw [hr, hz1]
  simp [Value.cells]
theorem new_bad {n h : Int} (w : World) (hb : ¬ ((1 ≤ n ∧ n ≤ 6) ∧ (0 ≤ h ∧ h < n))) : Calls Try.prog 28 #[.int .i64 n, .int .i64 h] w fun e w' => e = .returned (.tuple #[.pointer none, .int .i64 1]) ∧ w = w' := by
  by_cases h1 : n < 1
  · clear hb
    go_enter Try.func28, Try.ntmps28
    go_wp2_with fail
    go_ret2
    exact ⟨rfl, rfl⟩
  · by_cases h2 : n > 6
    · clear hb
      go_enter Try.func28, Try.ntmps28
      go_wp2_with fail
      go_ret2
      exact ⟨rfl, rfl⟩
    · by_cases h3 : h < 0
      · clear hb
        go_enter Try.func28, Try.ntmps28
        go_wp2_with fail
        go_ret2
        exact ⟨rfl, rfl⟩
      · have h4 : h ≥ n := by omega
        clear hb
        go_enter Try.func28, Try.ntmps28
        go_wp2_with fail
        go_ret2
        exact ⟨rfl, rfl⟩
/-- The ringers that New has made so far. -/
def ringC (n : Nat) (K : Nat → Nat) : Nat → List Value
  | 0 => []
  | k + 1 => ringC n K k ++ [.slice (some ⟨K k, 0, none⟩) n n, .int .i64 0]
theorem ringC_len (n : Nat) (K : Nat → Nat) (k : Nat) : (ringC n K k).length = k * 2 := by
  induction k with
  | zero => rfl
  | succ k ih => unfold ringC; rw [List.length_append, ih]; simp; omega
theorem ringC_get (n : Nat) (K : Nat → Nat) (k i : Nat) (hi : i < k) : (ringC n K k)[i * 2]? = some (.slice (some ⟨K i, 0, none⟩) n n) ∧ (ringC n K k)[i * 2 + 1]? = some (.int .i64 0) := by
  induction k with
  | zero => omega
  | succ k ih =>
    have hl := ringC_len n K k
    unfold ringC
    by_cases e : i = k
    · subst e
      rw [List.getElem?_append_right (by omega), List.getElem?_append_right (by omega), hl, Nat.sub_self, show i * 2 + 1 - i * 2 = 1 by omega]
      exact ⟨rfl, rfl⟩
    · rw [List.getElem?_append_left (by omega), List.getElem?_append_left (by omega)]
      exact ih (by omega)
theorem ringC_congr (n : Nat) (K K' : Nat → Nat) (k : Nat) (h : ∀ i, i < k → K i = K' i) : ringC n K k = ringC n K' k := by
  induction k with
  | zero => rfl
  | succ k ih => unfold ringC; rw [ih (fun i hi => h i (by omega)), h k (by omega)]
theorem info77 : (Try.prog.info? 77).map (fun i => (i.zero, i.size, i.bytes)) = some (some (.agg #[.slice none 0 0, .int .i64 0]), 2, 32) := by kernel_rfl
structure NewI (w : World) (N n : Nat) (h : Int) (k : Nat) (K : Nat → Nat) (v : Value) (wr : World) : Prop where
  hT : wr.heap[N + 2]? = some (.cells #[v, .int .i64 h, .slice (some ⟨N, 0, none⟩) n n, nilV, .map (some (N + 1)), .int .i64 0] 64 (0, 0))
  hS : Row wr 3 N 0 n (zerosV n)
  hM : FlAt wr (N + 1) n (fun _ _ => nilV)
  hR : wr.ownsRow (N + 3) 77 2 v k (ringC n K k)
  hK : ∀ i, i < k → N + 3 ≤ K i ∧ Row wr 3 (K i) 0 n (zerosV n)
  inj : ∀ i j, i < k → j < k → K i = K j → i = j
  bel : Below w.heap.size w wr
  siz : N + 3 ≤ wr.heap.size ∧ N = w.heap.size
def NewR (w : World) (N n : Nat) (h : Int) (v : Value) (wr : World) : Prop := ∃ k K V, v = .int .i64 (k : Nat) ∧ k ≤ n ∧ NewI w N n h k K V wr
theorem upon_make {o : Oper} {a : Act} {K : Act → World → Prop} {Q : Exit → Act → World → Prop} {W : World} {n : Nat} (hn : n ≤ 1000)
    (hK : ∀ g w', g = W.heap.size → Row w' 3 g 0 n (zerosV n) → W.grownBy w' none → Oper.upon Try.prog o a K Q (.ok (.value (.slice (some ⟨g, 0, none⟩) n n)) w')) :
    Oper.upon Try.prog o a K Q (((Instr.makeSlice 36 (.int .i64 n) (.int .i64 n)).run Try.prog W).andThen fun a w' => .ok (.value a) w') := by
  obtain ⟨w', h1, h2, h3, _⟩ := made_row n hn W
  rw [h1]
  exact hK _ w' rfl h2 h3
def RingR (W : World) (N k : Nat) (v : Value) (xs : List Value) (v' : Value) (w' : World) : Prop := w'.ownsRow (N + 3) 77 2 v' (k + 1) xs ∧ W.grownBy w' v.ownBlock ∧ ∃ g c, v' = .slice (some ⟨g, 0, none⟩) (k + 1) c
theorem ring_push {W : World} {N k g : Nat} {v : Value} {xs : List Value} {a b : Value} (h : W.ownsRow (N + 3) 77 2 v k xs) (hk : k ≤ 1000) (hN : N + 3 ≤ W.heap.size) (ha : W.cell? ⟨g, 0, none⟩ = some a) (hb : W.cell? ⟨g, 1, none⟩ = some b) (oa : a.oneCell' = true) (ob : b.oneCell' = true) :
    ∃ v' w', (Builtin.append_ #[59, 59] 59 #[v, .slice (some ⟨g, 0, none⟩) 1 1]).run Try.prog W = .ok v' w' ∧ RingR W N k v (xs ++ [a, b]) v' w' := by
  obtain ⟨i0, hi, hz0, hz1, hz2⟩ := info_parts info77
  have hn2 : ∀ j u, ([a, b] : List Value)[j]? = some u → W.cell? ((⟨g, 0, none⟩ : Addr).add j) = some u := by
    intro j u hj
    rw [addr_add, Nat.zero_add]
    match j, hj with
    | 0, hj => cases hj; exact ha
    | 1, hj => cases hj; exact hb
  obtain ⟨v', w', hrun, r1, r2, r3⟩ := run_append_own (P := Try.prog) W (N + 3) 59 59 77 i0 _ 2 32 Try.underlying59 hi hz0 hz1 hz2 rfl (by decide) v k xs h ⟨g, 0, none⟩ 1 1 [a, b] rfl hn2 (by simp [oa, ob]) (by simp [maxLen]; omega) (by omega) hN
  refine ⟨v', w', hrun, r1, r2, ?_⟩
  rcases r1.2 with ⟨e, h0⟩ | ⟨g', cap', cur', e, _⟩
  · omega
  · exact ⟨g', cap', e⟩
/-- A row of ringers is no row of numbers. -/
theorem ring_ne {W : World} {b : Nat} {v : Value} {k : Nat} {xs ys : List Value} {g off cap : Nat} (h : W.ownsRow b 77 2 v k xs) (r : Row W 3 g off cap ys) : v.ownBlock ≠ some g := by
  intro e
  rcases h.2 with ⟨rfl, _⟩ | ⟨g0, cap0, cur0, rfl, _, hg0, _⟩
  · cases e
  · have : g0 = g := Option.some.inj e
    subst this
    obtain ⟨cur, hc, _⟩ := r
    rw [hg0] at hc
    cases hc
theorem keep1 {X : Nat → Prop} {W w' : World} {p0 : Addr} {v0 : Value} (h0 : W.cell? p0 = some v0) (f0 : W.frozen? p0 = false) (x0 : ¬ X p0.block) (h : Off X W w') : w'.cell? p0 = some v0 ∧ w'.frozen? p0 = false ∧ Off X W w' :=
  ⟨(h.cell (World.block_lt_of_cell? _ _ h0) x0).trans h0, (World.frozen?_of_block (a := p0) (h.block p0.block (World.block_lt_of_cell? _ _ h0) x0)).trans f0, h⟩
def P1 (W : World) (N k : Nat) (v : Value) (xs : List Value) : Prop := W.ownsRow (N + 3) 77 2 v k xs ∧ N + 3 ≤ W.heap.size ∧ W.cell? ⟨N + 2, 0, none⟩ = some v ∧ W.frozen? ⟨N + 2, 0, none⟩ = false
theorem P1.drew {W : World} {N k : Nat} {v : Value} {xs : List Value} (h : P1 W N k v xs) : P1 W.drew N k v xs := h
theorem P1.alloc {W : World} {N k : Nat} {v : Value} {xs : List Value} (h : P1 W N k v xs) (o : Obj) : P1 (W.alloc o) N k v xs := by
  have hb := (Below.refl W.heap.size W).alloc (Nat.le_refl _) o
  have h2 := h.2.1
  exact ⟨World.ownsRow.alloc h.1 o, by simp; omega, (hb.cell (p := ⟨N + 2, 0, none⟩) (by show N + 2 < _; omega)).trans h.2.2.1, (World.frozen?_of_block (a := ⟨N + 2, 0, none⟩) (hb.block (N + 2) (by omega))).trans h.2.2.2⟩
def Cel2 (w : World) (b : Nat) (x y : Value) : Prop := b < w.heap.size ∧ w.cell? ⟨b, 0, none⟩ = some x ∧ w.cell? ⟨b, 1, none⟩ = some y
theorem cel2_new (w : World) (b : Nat) (x y : Value) (t : Nat) (hb : w.heap.size = b) : Cel2 (w.alloc (.cells #[x, y] t)) b x y := hb ▸ ⟨by simp, World.cell?_alloc_at _ _ _ _ rfl, World.cell?_alloc_at _ _ _ _ rfl⟩
theorem Cel2.drew {w : World} {b : Nat} {x y : Value} (h : Cel2 w b x y) : Cel2 w.drew b x y := h
theorem Cel2.alloc {w : World} {b : Nat} {x y : Value} (h : Cel2 w b x y) (o : Obj) : Cel2 (w.alloc o) b x y := by
  have hb := (Below.refl w.heap.size w).alloc (Nat.le_refl _) o
  exact ⟨Nat.lt_of_lt_of_le h.1 hb.size, (hb.cell (p := ⟨b, 0, none⟩) h.1).trans h.2.1, (hb.cell (p := ⟨b, 1, none⟩) h.1).trans h.2.2⟩
theorem ring_push2 {W : World} {N k g : Nat} {v : Value} {xs : List Value} {a b : Value} (h : P1 W N k v xs) (hk : k ≤ 1000) (hc : Cel2 W g a b) (oa : a.oneCell' = true) (ob : b.oneCell' = true) :
    ∃ v' w', (Builtin.append_ #[59, 59] 59 #[v, .slice (some ⟨g, 0, none⟩) 1 1]).run Try.prog W = .ok v' w' ∧ RingR W N k v (xs ++ [a, b]) v' w' ∧ w'.cell? ⟨N + 2, 0, none⟩ = some v ∧ w'.frozen? ⟨N + 2, 0, none⟩ = false := by
  obtain ⟨v', w', h1, h2⟩ := ring_push h.1 hk h.2.1 hc.2.1 hc.2.2 oa ob
  have h3 := h.2.1
  have hne : some (N + 2) ≠ v.ownBlock := fun e => by have := (World.ownsRow.lt h.1 _ e.symm).1; omega
  exact ⟨v', w', h1, h2, (World.cell?_of_block (a := ⟨N + 2, 0, none⟩) (h2.2.1.block (N + 2) (by omega) hne)).trans h.2.2.1, (World.frozen?_of_block (a := ⟨N + 2, 0, none⟩) (h2.2.1.block (N + 2) (by omega) hne)).trans h.2.2.2⟩
/-- The world behind the two makings of a round. -/
def Wm (wr W : World) (Z : Array Value) : Prop := Below wr.heap.size wr W ∧ W.heap[wr.heap.size]? = some (.cells Z 3 (0, 0))
theorem wm_new (wr : World) (Z : Array Value) : Wm wr (wr.alloc (.cells Z 3)) Z := ⟨(Below.refl _ _).alloc (Nat.le_refl _) _, World.alloc_heap_new wr _⟩
theorem Wm.drew {wr W : World} {Z : Array Value} (h : Wm wr W Z) : Wm wr W.drew Z := ⟨⟨h.1.os, h.1.tape, h.1.output, h.1.size, h.1.block⟩, h.2⟩
theorem Wm.alloc {wr W : World} {Z : Array Value} (h : Wm wr W Z) (o : Obj) : Wm wr (W.alloc o) Z :=
  ⟨h.1.alloc h.1.size o, (Below.heap_alloc _ _ _ (Array.getElem?_eq_some_iff.1 h.2).1).trans h.2⟩
theorem ring_step {w wr W w6 : World} {N n k : Nat} {h : Int} {K : Nat → Nat} {v v6 : Value} {Z : Array Value} (I : NewI w N n h k K v wr) (hW : Wm wr W Z) (hZ : Z.toList = zerosV n) (hn : n ≤ 6)
    (r : RingR W N k v (ringC n K k ++ [.slice (some ⟨wr.heap.size, 0, none⟩) n n, .int .i64 0]) v6 w6) : NewI w N n h (k + 1) (fun i => if i = k then wr.heap.size else K i) v6 (w6.setCell ⟨N + 2, 0, none⟩ v6) := by
  obtain ⟨r1, r2, g6, c6, rfl⟩ := r
  have hs := I.siz
  have hWl : wr.heap.size < W.heap.size := (Array.getElem?_eq_some_iff.1 hW.2).1
  have hvl : ∀ b, v.ownBlock = some b → N + 3 ≤ b ∧ b < wr.heap.size := fun b hb => World.ownsRow.lt I.hR b hb
  have keep : ∀ b, b < wr.heap.size → v.ownBlock ≠ some b → b ≠ N + 2 → (w6.setCell ⟨N + 2, 0, none⟩ (.slice (some ⟨g6, 0, none⟩) (k + 1) c6)).heap[b]? = wr.heap[b]? := by
    intro b hb h1 h2
    rw [heap_setCell_other w6 ⟨N + 2, 0, none⟩ b _ h2, r2.block b (by omega) (fun e => h1 e.symm), hW.1.block b hb]
  have keepZ : (w6.setCell ⟨N + 2, 0, none⟩ (.slice (some ⟨g6, 0, none⟩) (k + 1) c6)).heap[wr.heap.size]? = some (.cells Z 3 (0, 0)) := by
    rw [heap_setCell_other w6 ⟨N + 2, 0, none⟩ _ _ (by show wr.heap.size ≠ N + 2; omega), r2.block _ hWl (fun e => by have := hvl _ e.symm; omega), hW.2]
  have hT6 : w6.heap[N + 2]? = wr.heap[N + 2]? := by
    rw [r2.block (N + 2) (by omega) (fun e => by have := hvl _ e.symm; omega), hW.1.block (N + 2) (by omega)]
  have rowZ : Row (w6.setCell ⟨N + 2, 0, none⟩ (.slice (some ⟨g6, 0, none⟩) (k + 1) c6)) 3 wr.heap.size 0 n (zerosV n) := by
    refine ⟨Z, keepZ, by rw [zerosV_len]; exact Nat.le_refl _, by simp [maxLen]; omega, ?_, ?_⟩
    · have : Z.toList.length = n := by rw [hZ, zerosV_len]
      rw [Array.length_toList] at this
      omega
    · rw [List.drop_zero, hZ, zerosV_len]
      exact List.take_of_length_le (by rw [zerosV_len]; exact Nat.le_refl _)
  refine ⟨?_, I.hS.same (keep N (by omega) (fun e => by have := hvl _ e; omega) (by omega)), I.hM.same (keep _ (by omega) (fun e => by have := hvl _ e; omega) (by omega)), ?_, ?_, ?_, ?_, ?_, hs.2⟩
  · have := heap_setCell_same w6 (N + 2) 0 _ 64 (.slice (some ⟨g6, 0, none⟩) (k + 1) c6) (hT6.trans I.hT)
    rw [this]; rfl
  · have e : ringC n (fun i => if i = k then wr.heap.size else K i) (k + 1) = ringC n K k ++ [.slice (some ⟨wr.heap.size, 0, none⟩) n n, .int .i64 0] := by
      show ringC n _ k ++ [.slice (some ⟨if k = k then wr.heap.size else K k, 0, none⟩) n n, .int .i64 0] = _
      rw [if_pos rfl, ringC_congr n _ K k (fun i hi => if_neg (by omega))]
    rw [e]
    refine ⟨r1.1, r1.2.imp id ?_⟩
    rintro ⟨g, cap, cur, e1, h1, h2, h3⟩
    refine ⟨g, cap, cur, e1, h1, ?_, h3⟩
    rw [heap_setCell_other w6 ⟨N + 2, 0, none⟩ g _ (by show g ≠ N + 2; omega)]
    exact h2
  · intro i hi
    by_cases e : i = k
    · subst e
      rw [if_pos rfl]
      exact ⟨hs.1, rowZ⟩
    · rw [if_neg e]
      obtain ⟨h1, h2⟩ := I.hK i (by omega)
      exact ⟨h1, h2.same (keep _ h2.lt (ring_ne I.hR h2) (by omega))⟩
  · intro i j hi hj hij
    by_cases e1 : i = k
    · by_cases e2 : j = k
      · omega
      · have hij : (if i = k then wr.heap.size else K i) = if j = k then wr.heap.size else K j := hij
        rw [if_pos e1, if_neg e2] at hij
        have := (I.hK j (by omega)).2.lt
        omega
    · by_cases e2 : j = k
      · have hij : (if i = k then wr.heap.size else K i) = if j = k then wr.heap.size else K j := hij
        rw [if_neg e1, if_pos e2] at hij
        have := (I.hK i (by omega)).2.lt
        omega
      · have hij : (if i = k then wr.heap.size else K i) = if j = k then wr.heap.size else K j := hij
        rw [if_neg e1, if_neg e2] at hij
        exact I.inj i j (by omega) (by omega) hij
  · have b1 : Below w.heap.size wr w6 := by
      have h9 := I.bel.size
      refine ⟨r2.os.trans hW.1.os, r2.tape.trans hW.1.tape, r2.output.trans hW.1.output, Nat.le_trans hW.1.size r2.size, fun b hb => ?_⟩
      rw [r2.block b (by omega) (fun e => by have := hvl _ e.symm; omega), hW.1.block b (by omega)]
    exact (I.bel.trans b1).setCell (p := ⟨N + 2, 0, none⟩) (by show w.heap.size ≤ N + 2; omega) _
  · have := r2.size
    simp [World.setCell]
    omega
theorem NewI.drew {w wr : World} {N n k : Nat} {h : Int} {K : Nat → Nat} {v : Value} (I : NewI w N n h k K v wr) : NewI w N n h k K v wr.drew :=
  ⟨I.hT, I.hS, I.hM, I.hR, I.hK, I.inj, ⟨I.bel.os, I.bel.tape, I.bel.output, I.bel.size, I.bel.block⟩, I.siz⟩
theorem mkMap62 (w : World) : (Instr.makeMap 62 none).run Try.prog w = .ok (.map (some w.heap.size)) (w.alloc (.map #[] 0)) := by kernel_rfl
set_option maxHeartbeats 8000000 in
theorem new_calls {n h : Nat} (w : World) (hn : 1 ≤ n ∧ n ≤ 6) (hh : h < n) : Calls Try.prog 28 #[.int .i64 n, .int .i64 h] w fun e w' => e = .returned (.tuple #[.pointer (some ⟨w.heap.size + 2, 0, none⟩), .int .i64 0]) ∧ ∃ K v, NewI w w.heap.size n h n K v w' := by
  obtain ⟨N, hN⟩ : ∃ N, N = w.heap.size := ⟨_, rfl⟩
  obtain ⟨w1, mk, hrow, hgr, hs1⟩ := made_row n (by omega) w
  rw [← hN] at mk hrow hs1 ⊢
  have mm := mkMap62 w1
  rw [hs1] at mm
  obtain ⟨w2, hw2⟩ : ∃ w2, w2 = w1.alloc (.map #[] 0) := ⟨_, rfl⟩
  rw [← hw2] at mm
  have hs2 : w2.heap.size = N + 2 := by rw [hw2]; simp; omega
  obtain ⟨w3, hw3⟩ : ∃ w3, w3 = w2.alloc (.cells #[nilV, .int .i64 h, .slice (some ⟨N, 0, none⟩) n n, nilV, .map (some (N + 1)), .int .i64 0] 64) := ⟨_, rfl⟩
  have HI : Hid (NewI w N n h 0 (fun _ => 0) nilV w3) := by
    have b1 : Below w.heap.size w w1 := (Below.refl _ _).grown hgr (Nat.le_refl _) (fun k e => by cases e)
    have b2 : Below w1.heap.size w1 w2 := by rw [hw2]; exact (Below.refl _ _).alloc (Nat.le_refl _) _
    have b3 : Below w2.heap.size w2 w3 := by rw [hw3]; exact (Below.refl _ _).alloc (Nat.le_refl _) _
    have hf := fl_made w1 n
    rw [← hw2, hs1] at hf
    refine ⟨?_, (hrow.same (b2.block N (by omega))).same (b3.block N (by omega)), hf.same (b3.block _ (by omega)), ⟨rfl, .inl ⟨rfl, rfl⟩⟩, fun i hi => absurd hi (Nat.not_lt_zero i), fun i j hi => absurd hi (Nat.not_lt_zero i), ?_, ?_, hN⟩
    · rw [hw3, ← hs2]; exact World.alloc_heap_new w2 _
    · exact (b1.trans (b2.mono (by omega))).trans (b3.mono (by omega))
    · rw [hw3]; simp; omega
  have HW3 := Lib.hid hw3
  have HNN := Lib.hid hN
  clear hrow hgr hw2 hw3 hN
  have z1 : (n : Int) ≤ 6 := by omega
  have z2 : (1 : Int) ≤ n := by omega
  have z3 : (h : Int) < n := by omega
  have z4 : (0 : Int) ≤ h := by omega
  go_enter Try.func28, Try.ntmps28
  go_wp2_with fail
  have hw3 := HW3.out
  unfold nilV at hw3
  rw [← hw3]
  clear hw3 mk mm
  have hnh : ¬ n ≤ h := by omega
  go_simp
  go_loopw [30] (fun v wr => NewR w N n h v wr) (fun v _ => n - (intOf v).toNat)
  case atStart => exact ⟨0, _, _, rfl, Nat.zero_le _, HI.out⟩
  case round =>
    obtain ⟨k, K, V, rfl, hk, I⟩ := hrel
    have HH := Lib.hid I
    have c0 : wr.cell? ⟨N + 2, 0, none⟩ = some V := by rw [cell_of_row wr (N + 2) 0 _ 64 (0, 0) I.hT]; rfl
    have f0 : wr.frozen? ⟨N + 2, 0, none⟩ = false := by simp [World.frozen?, I.hT]
    clear I
    by_cases hlt : k < n
    · have hown : wr.ownsRow (N + 3) 77 2 V k (ringC n K k) := HH.out.hR
      have HP1 : Hid (P1 wr N k V (ringC n K k)) := ⟨hown, HH.out.siz.1, c0, f0⟩
      obtain ⟨p0, l0, k0, hV⟩ : ∃ p l c, V = Value.slice p l c := by
        rcases hown.2 with ⟨e, _⟩ | ⟨g, cap, cur, e, _⟩
        · exact ⟨_, _, _, e⟩
        · exact ⟨_, _, _, e⟩
      have hXV : ∀ g, V.ownBlock = some g → N + 3 ≤ g := fun g hg => (World.ownsRow.lt hown g hg).1
      have HXV := Lib.hid hXV
      subst hV
      obtain ⟨Z, hZ, mk⟩ := made_all n (by omega)
      have hTl : N + 2 < wr.heap.size := World.block_lt_of_cell? _ _ c0
      have cA : ∀ o, (wr.alloc o).cell? ⟨N + 2, 0, none⟩ = some (.slice p0 l0 k0) := fun o => (((Below.refl wr.heap.size wr).alloc (Nat.le_refl _) o).cell (p := ⟨N + 2, 0, none⟩) hTl).trans c0
      have cB : ∀ o o', ((wr.alloc o).alloc o').cell? ⟨N + 2, 0, none⟩ = some (.slice p0 l0 k0) := fun o o' => ((below_two wr o o').cell (p := ⟨N + 2, 0, none⟩) hTl).trans c0
      have HZ := Lib.hid hZ
      clear hown hXV hZ hTl
      go_wp2_with fail
      go_region_law ((refine step_app (by rfl) (.tmp 36) (.tmp 41) 59 59 (by rfl) (by rfl) _ _ (by rfl) (by rfl) (ring_push2 (N := N) (k := k) (v := .slice p0 l0 k0) (xs := ringC n K k) (b := .int .i64 0)
               (by repeat (first | with_reducible exact HP1.out | with_reducible refine P1.drew ?_ | with_reducible refine P1.alloc ?_ _)) (by omega)
               (by repeat (first | exact cel2_new _ _ _ _ _ (by first | rfl | (simp; done) | (simp; omega)) | with_reducible refine Cel2.drew ?_)) rfl rfl) ?_; rintro v6 w6 ⟨⟨hr6, hg6, g6, c6, rfl⟩, hc6, hf6⟩))
      all_goals
        have hI := (ring_step (h := h) HH.out (by repeat (first | with_reducible exact wm_new _ _ | with_reducible refine Wm.drew ?_ | with_reducible refine Wm.alloc ?_ _)) HZ.out hn.2 ⟨hr6, hg6, _, _, rfl⟩)
        have HI2 := Lib.hid hI
        clear hI hr6 hg6 hc6 hf6 cA cB c0 f0 mk
        go_wp2_with fail
        go_roundw
        case rel => exact ⟨k + 1, _, _, by go_num, by omega, HI2.out⟩
        case measure => simp [intOf]; omega
    · have hkn : k = n := by omega
      subst hkn
      clear c0 f0
      go_wp2_with fail
      go_ret2
      exact ⟨rfl, K, V, HH.out⟩
end Go.Proofs.Ytahjgdikjaakbaa

namespace Go.Proofs.Ytahjgdikjaakbaa
open Go.RowKit

/-- A tower in memory stands for an abstract one. -/
structure Up (w : World) (T : Nat) (s : LS) (t : TS) : Prop where
  low : Low w T s
  en : s.n = t.n
  em : s.mood = t.mood
  ek : s.known = t.known
  eh : s.holder = t.holder
  es : s.served = t.served
  eq : s.queue = t.queue
  ee : s.sent = t.sent
  ms : ∀ i j, i < t.n → j < t.n → s.ms i j = (t.fl i j).map (enc s.tsv s.tqv)
  hc : t.holder ≠ -1 → s.c2 = s.tsv ∧ s.c3 = s.tqv
  hno : t.holder = -1 → s.c2 = nilV ∧ s.c3 = nilV
/-- The low state that New leaves. -/
def newS (N n h : Nat) (K : Nat → Nat) (R rc : Nat) : LS :=
  ⟨n, R, rc, K, fun _ => n, List.replicate n 0, List.replicate n (List.replicate n 0), h, .slice (some ⟨N, 0, none⟩) n n, nilV, N + 1, fun _ _ => nilV, fun _ _ => [], 0, .slice (some ⟨N, 0, none⟩) n n, nilV, List.replicate n 0, []⟩
theorem repl_getD {α : Type} (n i : Nat) (x d : α) (hi : i < n) : (List.replicate n x).getD i d = x := by
  simp [List.getD_eq_getElem?_getD, hi]
theorem new_up {w wr : World} {N n h : Nat} {K : Nat → Nat} {v : Value} (I : NewI w N n h n K v wr) (hn : 1 ≤ n ∧ n ≤ 6) : ∃ s, Up wr (N + 2) s (TS.made n h) ∧ ∀ g, fp (N + 2) s g → N ≤ g := by
  have hR := I.hR
  rcases hR.2 with ⟨_, h0⟩ | ⟨R, rc, cur, rfl, hb, hg, h1, h2, h3, h4⟩
  · omega
  have hKR : ∀ i, i < n → K i ≠ R := fun i hi e => ring_ne hR (I.hK i hi).2 (by rw [e]; rfl)
  have hlow : Low wr (N + 2) (newS N n h K R rc) := by
    refine ⟨?_, hn, ⟨cur, hg, ?_, ?_⟩, ⟨h1, h2⟩, by simp [newS], by simp [newS], ?_, ?_, ?_, .inl ⟨rfl, rfl⟩, I.hM, fun _ _ _ _ => .inl ⟨rfl, rfl⟩, ?_⟩
    · rw [I.hT]; rfl
    · show 2 * n ≤ _; omega
    · intro i hi
      have hi : i < n := hi
      have e : ∀ j, j < n * 2 → cur[j]? = (ringC n K n)[j]? := fun j hj => by
        rw [← h4, List.getElem?_take, if_pos hj, Array.getElem?_toList]
      obtain ⟨r1, r2⟩ := ringC_get n K n i hi
      rw [e _ (by omega), e _ (by omega), r1, r2]
      refine ⟨rfl, ?_⟩
      show _ = some (Value.int .i64 ((List.replicate n 0).getD i 0))
      rw [repl_getD n i _ _ hi]
    · intro i hi
      show ((List.replicate n (List.replicate n 0)).getD i []).length = n
      rw [repl_getD n i _ _ hi, List.length_replicate]
    · intro i hi
      show Row wr 3 (K i) 0 n (intsV ((List.replicate n (List.replicate n 0)).getD i []))
      rw [repl_getD n i _ _ hi]
      exact (I.hK i hi).2
    · exact .inr ⟨N, 0, n, by rw [intsV_len]; show _ = Value.slice _ (List.replicate n (0 : Int)).length n; rw [List.length_replicate]; rfl, I.hS⟩
    · have hloc : ∀ x g, blk (N + 2) (newS N n h K R rc) x = some g → (x = .T ∧ g = N + 2) ∨ (x = .R ∧ g = R) ∨ (x = .M ∧ g = N + 1) ∨ (x = .S ∧ g = N) ∨ ∃ i, x = .K i ∧ i < n ∧ g = K i := by
        intro x g hx
        cases x with
        | T => cases hx; exact .inl ⟨rfl, rfl⟩
        | R => cases hx; exact .inr (.inl ⟨rfl, rfl⟩)
        | M => cases hx; exact .inr (.inr (.inl ⟨rfl, rfl⟩))
        | S => cases hx; exact .inr (.inr (.inr (.inl ⟨rfl, rfl⟩)))
        | Q => cases hx
        | K i =>
          have hx : (if i < n then some (K i) else none) = some g := hx
          split at hx
          · rename_i hi; cases hx; exact .inr (.inr (.inr (.inr ⟨i, rfl, hi, rfl⟩)))
          · cases hx
        | F i j =>
          have hx : (if i < n ∧ j < n then none else none) = some g := hx
          split at hx <;> cases hx
      intro x y g hx hy
      rcases hloc x g hx with ⟨rfl, rfl⟩ | ⟨rfl, rfl⟩ | ⟨rfl, rfl⟩ | ⟨rfl, rfl⟩ | ⟨i, rfl, hi, rfl⟩ <;> rcases hloc y _ hy with ⟨rfl, e⟩ | ⟨rfl, e⟩ | ⟨rfl, e⟩ | ⟨rfl, e⟩ | ⟨j, rfl, hj, e⟩ <;>
        first
          | rfl
          | omega
          | (have := (I.hK _ hi).1; omega)
          | (have := (I.hK _ hj).1; omega)
          | (exact absurd e (hKR _ hi))
          | (exact absurd e.symm (hKR _ hj))
          | (rw [I.inj i j hi hj e])
  refine ⟨_, ⟨hlow, rfl, rfl, rfl, rfl, rfl, rfl, rfl, fun _ _ _ _ => rfl, fun _ => ⟨rfl, rfl⟩, fun e => absurd (show (h : Int) = -1 from e) (by omega)⟩, ?_⟩
  rintro g ⟨x, hx⟩
  cases x with
  | T => cases hx; omega
  | R => cases hx; show N ≤ R; omega
  | M => cases hx; show N ≤ N + 1; omega
  | S => cases hx; exact Nat.le_refl _
  | Q => cases hx
  | K i =>
    have hx : (if i < n then some (K i) else none) = some g := hx
    split at hx
    · rename_i hi; cases hx; have := (I.hK i hi).1; omega
    · cases hx
  | F i j =>
    have hx : (if i < n ∧ j < n then none else none) = some g := hx
    split at hx <;> cases hx
end Go.Proofs.Ytahjgdikjaakbaa
