/- What is proved: asks, give. No condition beyond those in each statement. -/
import Derived.Test.YtahjgdikjaakbaaJ
import Derived.StillTailTactics
namespace Go.Proofs.Ytahjgdikjaakbaa
open Go.RowKit

theorem Off.drewN {X : Nat → Prop} {a b : World} (h : Off X a b) (q : Nat) : Off X a (b.drewN q) := ⟨h.os, h.tape, h.output, h.size, h.block⟩
theorem Low.drewN {w : World} {T : Nat} {s : LS} (h : Low w T s) (q : Nat) : Low (w.drewN q) T s := h.same fun _ _ _ => rfl
theorem Low.cS {w : World} {T : Nat} {s : LS} (h : Low w T s) {i : Nat} (hi : i < s.served.length) : ∃ g off c, s.tsv = .slice (some ⟨g, off, none⟩) s.served.length c ∧ w.cell? ⟨g, off + i, none⟩ = some (.int .i64 (s.served.getD i 0)) ∧ ∀ k, w.frozen? ⟨g, k, none⟩ = false := by
  rcases h.hS with ⟨_, e⟩ | ⟨g, off, c, e, hr⟩
  · have : (intsV s.served).length = 0 := by rw [e]; rfl
    rw [intsV_len] at this
    omega
  · refine ⟨g, off, c, by rw [e, intsV_len], ?_, hr.free⟩
    have := hr.at i (by rw [intsV_len]; exact hi)
    rw [this, intsV_at]
set_option maxHeartbeats 2000000 in
theorem asks_low {w : World} {T R K n rc kc g off l c : Nat} {x y : Int} (i b : Nat) (c0 : w.cell? ⟨T, 0, none⟩ = some (.slice (some ⟨R, 0, none⟩) n rc)) (c1 : w.cell? ⟨R, b * 2, none⟩ = some (.slice (some ⟨K, 0, none⟩) n kc)) (c2 : w.cell? ⟨K, i, none⟩ = some (.int .i64 x))
    (c3 : w.cell? ⟨T, 2, none⟩ = some (.slice (some ⟨g, off, none⟩) l c)) (c4 : w.cell? ⟨g, off + i, none⟩ = some (.int .i64 y)) (hi : i < n) (hb : b < n) (hl : i < l) (hy : -4611686018427387904 ≤ y ∧ y ≤ 4611686018427387904) :
    Calls Try.prog 54 #[.pointer (some ⟨T, 0, none⟩), .int .i64 i, .int .i64 b] w fun e w' => e = .returned (.bool (decide (x = y + 1))) ∧ ∃ q, w' = w.drewN q := by
  have z1 : (0 : Int) ≤ (i : Int) ∧ (i : Int) < n ∧ (i : Int) < l := by omega
  have z2 : (0 : Int) ≤ (b : Int) ∧ (b : Int) < n := by omega
  have ws : IntKind.i64.wrap (y + 1) = y + 1 := IntWalk.i64_in _ (by omega)
  go_enter Try.func54, Try.ntmps54
  go_wp2_with fail
  go_quiet (fail)
  go_wp2_with fail
  go_ret
  exact ⟨rfl, _, rfl⟩
/-- What give leaves. -/
def gave (s : LS) (a b : Nat) (v : Value) : LS := setC (setH (putF s a b v (s.ms a b ++ [.iface 61 (.agg #[s.c2, s.c3])]) (s.sent + 1)) (-1)) nilV nilV
theorem blk_gave (T : Nat) (s : LS) (a b : Nat) (v : Value) : blk T (gave s a b v) = blk T (putF s a b v (s.ms a b ++ [.iface 61 (.agg #[s.c2, s.c3])]) (s.sent + 1)) := by funext x; cases x <;> rfl
set_option maxHeartbeats 4000000 in
theorem give_calls {w : World} {T : Nat} {s : LS} (h : Low w T s) (a b : Nat) (hh : s.holder = a) (ha : a < s.n) (hb : b < s.n) (hl : (s.ms a b).length ≤ 100000) (hs : -4611686018427387904 ≤ s.sent ∧ s.sent ≤ 4611686018427387904) :
    Calls Try.prog 56 #[.pointer (some ⟨T, 0, none⟩), .int .i64 b] w fun e w' => e = .returned (.tuple #[]) ∧ ∃ v', Low w' T (gave s a b v') ∧ Off (fp T s) w w' ∧ ∀ k, fp T (gave s a b v') k → fp T s k ∨ w.heap.size ≤ k := by
  obtain ⟨_, d1, d2, d3, _, _⟩ := h.cells
  rw [hh] at d1
  have CS : Hid (Calls Try.prog 51 #[.pointer (some ⟨T, 0, none⟩), .int .i64 a, .int .i64 b, .iface 61 (.agg #[s.c2, s.c3])] w.drew fun e w' => e = .returned (.tuple #[]) ∧ ∃ v', Low w' T (putF s a b v' (s.ms a b ++ [.iface 61 (.agg #[s.c2, s.c3])]) (s.sent + 1)) ∧ Off (fp T s) w.drew w' ∧ ∀ k, fp T (putF s a b v' (s.ms a b ++ [.iface 61 (.agg #[s.c2, s.c3])]) (s.sent + 1)) k → fp T s k ∨ w.drew.heap.size ≤ k) := send_calls (h.drewN 1) ha hb 61 (.agg #[s.c2, s.c3]) hl hs
  have hOd : Hid (Off (fp T s) w w.drew) := (Off.refl _ w).drew
  obtain ⟨v2, hv2⟩ : ∃ v, v = s.c2 := ⟨_, rfl⟩
  obtain ⟨v3, hv3⟩ : ∃ v, v = s.c3 := ⟨_, rfl⟩
  have HG : Hid (∀ v w', Low w' T (putF s a b v (s.ms a b ++ [.iface 61 (.agg #[s.c2, s.c3])]) (s.sent + 1)) → Low (((w'.setCell ⟨T, 1, none⟩ (.int .i64 (-1))).setCell ⟨T, 2, none⟩ nilV).setCell ⟨T, 3, none⟩ nilV) T (gave s a b v)) := fun v w' k => (k.setH (-1)).setC nilV nilV
  clear hh
  go_enter Try.func56, Try.ntmps56
  go_wp2_with fail
  go_still_tail 11, (by kernel_rfl)
  change wpList _ _ _ _ _ w.drew
  go_wp2_with fail
  refine CS.out.mono ?_
  rintro e w1 ⟨rfl, v', hL, hO, hF⟩
  have HL := Lib.hid hL
  have HO := Lib.hid (hOd.out.trans hO)
  have HF := Lib.hid hF
  obtain ⟨_, e1, e2, e3, _, _⟩ := hL.cells
  have f1 := hL.fT 1
  have f2 := hL.fT 2
  have f3 := hL.fT 3
  clear hL hO hF
  go_wp2_with fail
  go_end0
  exact ⟨rfl, v', HG.out v' w1 HL.out, ((HO.out.setCell ⟨.T, rfl⟩ _).setCell ⟨.T, rfl⟩ _).setCell ⟨.T, rfl⟩ _, fun k hk => HF.out k (by obtain ⟨x, hx⟩ := hk; exact ⟨x, by rw [← blk_gave]; exact hx⟩)⟩
/-- What learn does to a tower. -/
theorem learn_calls {w : World} {T i j : Nat} {s : LS} (h : Low w T s) (hi : i < s.n) (hj : j < s.n) (no : Int) : Calls Try.prog 50 #[.pointer (some ⟨s.R, i * 2, none⟩), .int .i64 j, .int .i64 no] w fun e w' => e = .returned (.tuple #[]) ∧ Low w' T (setK s i j (max ((s.known.getD i []).getD j 0) no)) ∧ Off (fp T s) w w' := by
  have f : w.frozen? ⟨s.K i, j, none⟩ = false := (h.hK i hi).free j
  refine (learn_low j no (h.cR hi).1 (h.cK hi hj) f hj).mono ?_
  rintro e w' ⟨rfl, q, rfl⟩
  exact ⟨rfl, (h.drewN q).setK hi hj _, (((Off.refl _ _ : Off (fp T s) w w).drewN q)).setCell (p := ⟨s.K i, j, none⟩) ⟨.K i, if_pos hi⟩ _⟩
end Go.Proofs.Ytahjgdikjaakbaa
