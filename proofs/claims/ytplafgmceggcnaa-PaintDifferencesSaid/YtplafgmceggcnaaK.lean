/- What is proved: without (contracts of functions of paint, and what they need). No condition beyond those in each statement. -/
import Derived.Test.YtplafgmceggcnaaJ
import Derived.Test.YtplafgmceggcnaaH
import Derived.Laws.EntriesVeiled
namespace Go.Proofs.Ytplafgmceggcnaa
open Go.RowKit

theorem wpList_app {P : Program} {w : World} {ops : Array Oper} {rest : List Oper} {o : Oper} {a : Act} {Q : Exit → Act → World → Prop}
    (hg : o.guard = none) (s x : Operand) (t ty : TypeId) (hop : o.op = Op.call { callee := Callee.builtin Builtin.append, args := #[s, x], argTypes := #[t, t] }) (hty : o.type = ty)
    (v1 v2 : Value) (hs : a.eval s = v1) (hx : a.eval x = v2) {v' : Value} {w' : World} (hrun : (Builtin.append_ #[t, t] ty #[v1, v2]).run P w = .ok v' w')
    (hK : wpList P ops Q rest (a.put o.dst v') w') : wpList P ops Q (o :: rest) a w := by
  refine wpList_plain hg fun K hK' => ?_
  unfold Oper.wp
  simp [execOp, hop, hty, resolve, invoke, builtin, hs, hx, hrun, Result.andThen]
  exact hK' _ _ hK

def pairCells (l : List (Nat × Nat)) : List Value := l.flatMap fun e => [.int .i64 (e.1 : Nat), .int .i64 (e.2 : Nat)]
theorem pairCells_snoc (l : List (Nat × Nat)) (e : Nat × Nat) : pairCells (l ++ [e]) = pairCells l ++ [.int .i64 (e.1 : Nat), .int .i64 (e.2 : Nat)] := by simp [pairCells]
def rowTo (a b : Nat) : List (Nat × Nat) := (List.range' (a + 1) (b - (a + 1))).map fun b => (a, b)
def endsTo (n a : Nat) : List (Nat × Nat) := (List.range a).flatMap fun a => rowTo a n
theorem endsTo_all (n : Nat) : endsTo n n = endsOf n := rfl
theorem endsTo_succ (n a : Nat) : endsTo n (a + 1) = endsTo n a ++ rowTo a n := by simp [endsTo, List.range_succ]
theorem rowTo_succ (a b : Nat) (h : a + 1 ≤ b) : rowTo a (b + 1) = rowTo a b ++ [(a, b)] := by
  unfold rowTo
  rw [show b + 1 - (a + 1) = (b - (a + 1)) + 1 by omega, List.range'_concat, List.map_append]
  simp; omega
theorem rowTo_nil (a : Nat) : rowTo a (a + 1) = [] := by simp [rowTo]
theorem rowTo_len (a b : Nat) : (rowTo a b).length = b - (a + 1) := by simp [rowTo]
theorem endsTo_len (n a : Nat) : (endsTo n a).length ≤ a * n := by
  induction a with
  | zero => simp [endsTo]
  | succ a ih => rw [endsTo_succ, List.length_append, rowTo_len, Nat.add_mul]; omega
theorem info73 : (Try.prog.info? 73).map (fun i => (i.zero, i.size, i.bytes)) = some (some (.agg #[.int .i64 0, .int .i64 0]), 2, 16) := by kernel_rfl

/-- The pairs so far, in their box. -/
def EndsI (N : Nat) (W3 : World) (es : List (Nat × Nat)) (wr : World) : Prop :=
  ∃ sv, wr.cell? ⟨N + 3, 0, none⟩ = some sv ∧ wr.frozen? ⟨N + 3, 0, none⟩ = false ∧ wr.ownsRow (N + 4) 73 2 sv es.length (pairCells es) ∧ Below (N + 3) W3 wr ∧ N + 4 ≤ wr.heap.size

theorem ends_step {N : Nat} {W3 wr : World} {es : List (Nat × Nat)} (a b : Nat) (hl : es.length ≤ 1000) {sv : Value} (h1 : wr.cell? ⟨N + 3, 0, none⟩ = some sv) (h2 : wr.frozen? ⟨N + 3, 0, none⟩ = false)
    (h3 : wr.ownsRow (N + 4) 73 2 sv es.length (pairCells es)) (h4 : Below (N + 3) W3 wr) (h5 : N + 4 ≤ wr.heap.size) :
    ∃ v' w', (Builtin.append_ #[71, 71] 71 #[sv, .slice (some ⟨wr.heap.size, 0, none⟩) 1 1]).run Try.prog (wr.alloc (.cells #[.int .i64 (a : Nat), .int .i64 (b : Nat)] 73)) = .ok v' w' ∧
      (∃ A n c, v' = .slice A n c) ∧ w'.cell? ⟨N + 3, 0, none⟩ = some sv ∧ w'.frozen? ⟨N + 3, 0, none⟩ = false ∧ EndsI N W3 (es ++ [(a, b)]) (w'.setCell ⟨N + 3, 0, none⟩ v') := by
  obtain ⟨i0, hi, hz0, hz1, hz2⟩ := info_parts info73
  have hn2 : ∀ j u, ([.int .i64 (a : Nat), .int .i64 (b : Nat)] : List Value)[j]? = some u → (wr.alloc (.cells #[.int .i64 (a : Nat), .int .i64 (b : Nat)] 73)).cell? ((⟨wr.heap.size, 0, none⟩ : Addr).add j) = some u := by
    intro j u hj
    rw [addr_add, Nat.zero_add, World.cell?_alloc_at _ _ _ _ rfl]
    simpa using hj
  obtain ⟨v', w', hrun, r1, r2, r3⟩ := run_append_own (P := Try.prog) (wr.alloc (.cells #[.int .i64 (a : Nat), .int .i64 (b : Nat)] 73)) (N + 4) 71 71 73 i0 (.agg #[.int .i64 0, .int .i64 0]) 2 16 Try.underlying71 hi hz0 hz1 hz2 rfl (by decide) sv es.length (pairCells es) (h3.alloc _) ⟨wr.heap.size, 0, none⟩ 1 1 [.int .i64 (a : Nat), .int .i64 (b : Nat)] rfl hn2 (by simp [Value.oneCell']) (by simp [maxLen]; omega) (by omega) (by simp; omega)
  have hrow : ∀ k, sv.ownBlock = some k → N + 4 ≤ k := fun k hk => (h3.lt k hk).1
  have hbl : w'.heap[N + 3]? = wr.heap[N + 3]? := (r2.block (N + 3) (by simp; omega) (fun e => by have := hrow _ e.symm; omega)).trans (Below.heap_alloc _ _ _ (by omega))
  have c1 : w'.cell? ⟨N + 3, 0, none⟩ = some sv := (World.cell?_of_block (w := wr) hbl).trans h1
  have c2 : w'.frozen? ⟨N + 3, 0, none⟩ = false := (World.frozen?_of_block (w := wr) hbl).trans h2
  have hb : Below (N + 3) W3 w' := (h4.alloc (by omega) _).grown r2 (by simp; omega) (fun k hk => by have := hrow k hk; omega)
  have hsz := r2.size
  simp at hsz
  refine ⟨v', w', hrun, ?_, c1, c2, v', cell_set_self c1, by rw [World.frozen?_setCell]; exact c2, ?_, hb.setCell (p := ⟨N + 3, 0, none⟩) (Nat.le_refl _) _, by simp [World.setCell]; omega⟩
  · rcases r1.2 with ⟨rfl, _⟩ | ⟨g, cap, cur, rfl, _⟩
    · exact ⟨_, _, _, rfl⟩
    · exact ⟨_, _, _, rfl⟩
  · rw [List.length_append, pairCells_snoc]
    exact ownsRow_setCell_below r1 (by simp) _

set_option maxHeartbeats 2000000 in
theorem without_calls (n : Nat) (hn : n ≤ 8) (k l : Int) (w : World) :
    Calls Try.prog 43 #[.int .i64 n, .int .i64 k, .int .i64 l] w fun e w' => ∃ J : Nat, w.heap.size ≤ J ∧ e = .returned (.func (.func 60) #[] #[.pointer (some ⟨w.heap.size + 3, 0, none⟩), .pointer (some ⟨w.heap.size + 1, 0, none⟩), .pointer (some ⟨w.heap.size + 2, 0, none⟩), .pointer (some ⟨J, 0, none⟩)]) ∧
      Below w.heap.size w w' ∧ w'.cell? ⟨w.heap.size, 0, none⟩ = some (.int .i64 n) ∧ w'.cell? ⟨w.heap.size + 1, 0, none⟩ = some (.int .i64 k) ∧ w'.cell? ⟨w.heap.size + 2, 0, none⟩ = some (.int .i64 l) ∧
      (∃ sv, w'.cell? ⟨w.heap.size + 3, 0, none⟩ = some sv ∧ w'.ownsRow (w.heap.size + 4) 73 2 sv (endsOf n).length (pairCells (endsOf n))) ∧
      w'.cell? ⟨J, 0, none⟩ = some (.func (.func 58) #[] #[.pointer (some ⟨w.heap.size, 0, none⟩), .pointer (some ⟨J, 0, none⟩)]) := by
  go_enter Try.func43, Try.ntmps43
  go_wp2_with fail
  obtain ⟨W3, hW3⟩ : ∃ W3, W3 = ((w.alloc (.cells #[.int .i64 n] 3)).alloc (.cells #[.int .i64 k] 3)).alloc (.cells #[.int .i64 l] 3) := ⟨_, rfl⟩
  obtain ⟨q1, q2, q3, q4⟩ := box3 w (.int .i64 n) (.int .i64 k) (.int .i64 l) 3 3 3
  rw [← hW3] at q1 q2 q3 q4 ⊢
  have hB3 : Below w.heap.size w W3 := by rw [hW3]; exact (((Below.refl _ w).alloc (Nat.le_refl _) _).alloc (by simp) _).alloc (by simp; omega) _
  have HB3 := Lib.hid hB3
  have HQ1 := Lib.hid q1
  have HQ2 := Lib.hid q2
  have HQ3 := Lib.hid q3
  have HQ4 := Lib.hid q4
  clear hW3 hB3 q1 q2 q3 q4
  go_loopw [12] (fun v wr => ∃ a : Nat, v = .int .i64 a ∧ a ≤ n ∧ Hid (EndsI w.heap.size W3 (endsTo n a) wr)) (fun v _ => n - (intOf v).toNat)
  case atStart =>
    refine ⟨0, rfl, Nat.zero_le _, .slice none 0 0, ?_, ?_, World.ownsRow_nil _ _ _ _, (Below.refl _ _).alloc (by rw [HQ4.out]; exact Nat.le_refl _) _, by simp [HQ4.out]⟩
    · exact cell_new _ _ _ _ HQ4.out.symm
    · exact frozen_new _ _ _ _ HQ4.out.symm
  case round =>
    obtain ⟨a, rfl, ha, HE⟩ := hrel
    have hn0 : wr.cell? ⟨w.heap.size, 0, none⟩ = some (.int .i64 n) := by
      obtain ⟨_, _, _, _, hb, _⟩ := HE.out
      exact (hb.cell (p := ⟨w.heap.size, 0, none⟩) (by simp)).trans HQ1.out
    by_cases hlt : a < n
    · go_wp2_with fail
      go_loopw [9] (fun v wr => ∃ b : Nat, v = .int .i64 b ∧ a + 1 ≤ b ∧ b ≤ n ∧ Hid (EndsI w.heap.size W3 (endsTo n a ++ rowTo a b) wr)) (fun v _ => n - (intOf v).toNat)
      case atStart => exact ⟨a + 1, by go_num, Nat.le_refl _, by omega, by rw [rowTo_nil, List.append_nil]; exact HE.out⟩
      case round =>
        clear hn0
        obtain ⟨b, rfl, hab, hb, HE2⟩ := hrel
        have hn0 : wr.cell? ⟨w.heap.size, 0, none⟩ = some (.int .i64 n) := by
          obtain ⟨_, _, _, _, hb, _⟩ := HE2.out
          exact (hb.cell (p := ⟨w.heap.size, 0, none⟩) (by simp)).trans HQ1.out
        by_cases hlt2 : b < n
        · obtain ⟨sv, h1, h2, h3, h4, h5⟩ := HE2.out
          obtain ⟨v', w', hrun, ⟨A', n', c', rfl⟩, c1, c2, hnew⟩ := ends_step a b (by
            have := endsTo_len n a
            have h8 : a * n ≤ 8 * 8 := Nat.mul_le_mul (by omega) hn
            rw [List.length_append, rowTo_len]; omega) h1 h2 h3 h4 h5
          have HRUN := Lib.hid hrun
          have HNEW := Lib.hid hnew
          have h1' : wr.cell? ⟨w.heap.size + 1 + 1 + 1, 0, none⟩ = some sv := h1
          have c1' : w'.cell? ⟨w.heap.size + 1 + 1 + 1, 0, none⟩ = some sv := c1
          have c2' : w'.frozen? ⟨w.heap.size + 1 + 1 + 1, 0, none⟩ = false := c2
          have hw1 : w.heap.size + 1 + 1 + 1 < wr.heap.size := by omega
          clear hrun hnew h1 h2 h3 h4 c1 c2
          go_wp2_with (at_builtin; refine wpList_app rfl (.tmp 22) (.tmp 26) 71 71 rfl rfl _ _ rfl rfl HRUN.out ?_)
          go_roundw
          case rel => exact ⟨b + 1, by go_num, by omega, by omega, by rw [rowTo_succ a b hab, ← List.append_assoc]; exact HNEW.out⟩
          case measure => simp [intOf]; omega
        · have hbn : b = n := by omega
          have HE3 : Hid (EndsI w.heap.size W3 (endsTo n (a + 1)) wr) := by
            have := HE2.out
            rw [hbn, ← endsTo_succ] at this; exact this
          clear hbn
          go_wp2_with fail
          go_roundw
          case rel => exact ⟨a + 1, by go_num, by omega, HE3.out⟩
          case measure => simp [intOf]; omega
    · have han : a = n := by omega
      have HE3 : Hid (EndsI w.heap.size W3 (endsOf n) wr) := by
        have := HE.out
        rw [han, endsTo_all] at this; exact this
      clear han hn0
      go_wp2_with fail
      obtain ⟨sv, h1, h2, h3, h4, h5⟩ := HE3.out
      go_ret
      have hB := HB3.out.trans (h4.mono (by omega))
      exact ⟨wr.heap.size, by omega, rfl, hB.alloc (by omega) _, by
        rw [World.cell?_alloc_past _ _ _ (by show (_ : Nat) < _; omega)]; exact (h4.cell (p := ⟨w.heap.size, 0, none⟩) (by simp)).trans HQ1.out, by
        rw [World.cell?_alloc_past _ _ _ (by show (_ : Nat) < _; omega)]; exact (h4.cell (p := ⟨w.heap.size + 1, 0, none⟩) (by simp)).trans HQ2.out, by
        rw [World.cell?_alloc_past _ _ _ (by show (_ : Nat) < _; omega)]; exact (h4.cell (p := ⟨w.heap.size + 2, 0, none⟩) (by simp)).trans HQ3.out, ⟨sv, by
        rw [World.cell?_alloc_past _ _ _ (by show (_ : Nat) < _; omega)]; exact h1, h3.alloc _⟩, cell_new _ _ _ _ rfl⟩
end Go.Proofs.Ytplafgmceggcnaa
