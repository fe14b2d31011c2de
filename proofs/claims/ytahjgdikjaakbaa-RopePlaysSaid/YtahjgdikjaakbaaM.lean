/- What is proved: Want. No condition beyond those in each statement. -/
import Derived.Test.YtahjgdikjaakbaaK
namespace Go.Proofs.Ytahjgdikjaakbaa
open Go.RowKit

/-- A tower has become another one; no other memory has changed. -/
structure Mv (T : Nat) (s : LS) (w : World) (s' : LS) (w' : World) : Prop where
  low : Low w' T s'
  off : Off (fp T s) w w'
  sub : ∀ g, fp T s' g → fp T s g ∨ w.heap.size ≤ g
theorem Mv.refl {T : Nat} {s : LS} {w : World} (h : Low w T s) : Mv T s w s w := ⟨h, Off.refl _ _, fun _ h => .inl h⟩
theorem Off.step {X Y : Nat → Prop} {a b c : World} (h : Off X a b) (k : Off Y b c) (hy : ∀ g, Y g → X g ∨ a.heap.size ≤ g) : Off X a c :=
  ⟨k.os.trans h.os, k.tape.trans h.tape, k.output.trans h.output, Nat.le_trans h.size k.size, fun i hi hx => (k.block i (Nat.lt_of_lt_of_le hi h.size) (fun hy' => by rcases hy i hy' with h1 | h1; exact hx h1; omega)).trans (h.block i hi hx)⟩
theorem Mv.trans {T : Nat} {s s1 s2 : LS} {w w1 w2 : World} (h : Mv T s w s1 w1) (k : Mv T s1 w1 s2 w2) : Mv T s w s2 w2 :=
  ⟨k.low, h.off.step k.off h.sub, fun g hg => by
    rcases k.sub g hg with h1 | h1
    · exact h.sub g h1
    · exact .inr (Nat.le_trans h.off.size h1)⟩
theorem Mv.drewN {T : Nat} {s s1 : LS} {w w1 : World} (h : Mv T s w s1 w1) (q : Nat) : Mv T s w s1 (w1.drewN q) := ⟨h.low.drewN q, h.off.drewN q, h.sub⟩
theorem Mv.below {T N : Nat} {s s1 : LS} {w w1 w2 : World} (h : Mv T s w s1 w1) (hb : Below N w1 w2) (hN : w1.heap.size ≤ N) : Mv T s w s1 w2 :=
  ⟨h.low.below (hb.mono hN), h.off.trans ⟨hb.os, hb.tape, hb.output, hb.size, fun k hk _ => hb.block k (Nat.lt_of_lt_of_le hk hN)⟩, h.sub⟩
theorem blk_fp {T : Nat} {s s' : LS} (h : blk T s' = blk T s) : ∀ g, fp T s' g → fp T s g := by
  rintro g ⟨x, hx⟩
  exact ⟨x, by rw [← h]; exact hx⟩
theorem mv_same {T : Nat} {s s' : LS} {w w' : World} (h : Low w' T s') (ho : Off (fp T s) w w') (e : blk T s' = blk T s) : Mv T s w s' w' := ⟨h, ho, fun g hg => .inl (blk_fp e g hg)⟩
def reqV (no : Int) : Value := .iface 88 (.agg #[.int .i64 no])
theorem send_mv {w : World} {T i j : Nat} {s : LS} (h : Low w T s) (hi : i < s.n) (hj : j < s.n) (mt : TypeId) (mv : Value) (hl : (s.ms i j).length ≤ 100000) (hs : -4611686018427387904 ≤ s.sent ∧ s.sent ≤ 4611686018427387904) :
    Calls Try.prog 51 #[.pointer (some ⟨T, 0, none⟩), .int .i64 i, .int .i64 j, .iface mt mv] w fun e w' => e = .returned (.tuple #[]) ∧ ∃ v', Mv T s w (putF s i j v' (s.ms i j ++ [.iface mt mv]) (s.sent + 1)) w' :=
  (send_calls h hi hj mt mv hl hs).mono fun _ _ ⟨he, v', a, b, c⟩ => ⟨he, v', a, b, c⟩
theorem give_mv {w : World} {T : Nat} {s : LS} (h : Low w T s) (a b : Nat) (hh : s.holder = a) (ha : a < s.n) (hb : b < s.n) (hl : (s.ms a b).length ≤ 100000) (hs : -4611686018427387904 ≤ s.sent ∧ s.sent ≤ 4611686018427387904) :
    Calls Try.prog 56 #[.pointer (some ⟨T, 0, none⟩), .int .i64 b] w fun e w' => e = .returned (.tuple #[]) ∧ ∃ v', Mv T s w (gave s a b v') w' :=
  (give_calls h a b hh ha hb hl hs).mono fun _ _ ⟨he, v', a, b, c⟩ => ⟨he, v', a, b, c⟩
theorem learn_mv {w : World} {T i j : Nat} {s : LS} (h : Low w T s) (hi : i < s.n) (hj : j < s.n) (no : Int) : Calls Try.prog 50 #[.pointer (some ⟨s.R, i * 2, none⟩), .int .i64 j, .int .i64 no] w fun e w' => e = .returned (.tuple #[]) ∧ Mv T s w (setK s i j (max ((s.known.getD i []).getD j 0) no)) w' :=
  (learn_calls h hi hj no).mono fun _ _ ⟨he, a, b⟩ => ⟨he, mv_same a b (blk_setK _ _ _ _ _)⟩
/-- The messages when requests have gone to those below k. -/
def msW (f : Nat → Nat → List Value) (i : Nat) (no : Int) (k a b : Nat) : List Value := if a = i ∧ b < k ∧ b ≠ i then f a b ++ [reqV no] else f a b
def cntW (i k : Nat) : Int := if i < k then (k : Int) - 1 else k
def wantK (s : LS) (i : Nat) (no : Int) (k : Nat) (F : Nat → Nat → Value) : LS := { s with F := F, ms := msW s.ms i no k, sent := s.sent + cntW i k }
theorem wantK_zero (s : LS) (i : Nat) (no : Int) : wantK s i no 0 s.F = s := by
  have h1 : msW s.ms i no 0 = s.ms := by funext a b; simp [msW]
  have h2 : s.sent + cntW i 0 = s.sent := by simp [cntW]
  unfold wantK
  rw [h1, h2]
theorem wantK_skip (s : LS) (i : Nat) (no : Int) (F : Nat → Nat → Value) : wantK s i no (i + 1) F = wantK s i no i F := by
  have h1 : msW s.ms i no (i + 1) = msW s.ms i no i := by
    funext a b
    unfold msW
    by_cases e : a = i ∧ b < i ∧ b ≠ i
    · rw [if_pos e, if_pos ⟨e.1, by omega, e.2.2⟩]
    · rw [if_neg e, if_neg (fun h => e ⟨h.1, by omega, h.2.2⟩)]
  have h2 : cntW i (i + 1) = cntW i i := by simp [cntW]
  unfold wantK
  rw [h1, h2]
theorem wantK_step (s : LS) (i : Nat) (no : Int) (k : Nat) (F : Nat → Nat → Value) (v : Value) (hk : k ≠ i) : putF (wantK s i no k F) i k v ((wantK s i no k F).ms i k ++ [reqV no]) ((wantK s i no k F).sent + 1) = wantK s i no (k + 1) (upd F i k v) := by
  have h0 : (wantK s i no k F).ms i k = s.ms i k := by show msW s.ms i no k i k = _; unfold msW; rw [if_neg (by omega)]
  have h1 : updM (msW s.ms i no k) i k (s.ms i k ++ [reqV no]) = msW s.ms i no (k + 1) := by
    funext a b
    unfold updM msW
    by_cases e : a = i ∧ b = k
    · obtain ⟨rfl, rfl⟩ := e
      rw [if_pos ⟨rfl, rfl⟩, if_pos ⟨rfl, by omega, hk⟩]
    · rw [if_neg e]
      by_cases e2 : a = i ∧ b < k ∧ b ≠ i
      · rw [if_pos e2, if_pos ⟨e2.1, by omega, e2.2.2⟩]
      · rw [if_neg e2, if_neg (by intro h; exact e2 ⟨h.1, by omega, h.2.2⟩)]
  have h2 : s.sent + cntW i k + 1 = s.sent + cntW i (k + 1) := by unfold cntW; split <;> split <;> omega
  rw [h0]
  simp only [putF, wantK]
  rw [h1, h2]
theorem thereB_nat {n i : Nat} (h : i < n) : thereB n i = true := by
  unfold thereB
  rw [decide_eq_true (by omega), decide_eq_true (by omega)]
  rfl
theorem thereB_out {n : Nat} {i : Int} (h : thereB n i = true) : ∃ a : Nat, i = a ∧ a < n := by
  unfold thereB at h
  simp at h
  exact ⟨i.toNat, by omega, by omega⟩
theorem check_in {w : World} {T i : Nat} {s : LS} (h : Low w T s) (hi : i < s.n) : Calls Try.prog 45 #[.pointer (some ⟨T, 0, none⟩), .int .i64 i] w fun e w' => e = .returned (.int .i64 0) ∧ w = w' := by
  have := tcheck_calls h i
  unfold checkR at this
  rw [thereB_nat hi] at this
  exact this
theorem check_out {w : World} {T : Nat} {i : Int} {s : LS} (h : Low w T s) (hi : thereB s.n i = false) : Calls Try.prog 45 #[.pointer (some ⟨T, 0, none⟩), .int .i64 i] w fun e w' => e = .returned (.int .i64 1) ∧ w = w' := by
  have := tcheck_calls h i
  unfold checkR at this
  rw [hi] at this
  exact this
theorem want_out {w : World} {T : Nat} {i : Int} {s : LS} (h : Low w T s) (hi : thereB s.n i = false) : Calls Try.prog 32 #[.pointer (some ⟨T, 0, none⟩), .int .i64 i] w fun e w' => e = .returned (.int .i64 1) ∧ w = w' := by
  have C1 := Lib.hid (check_out h hi)
  clear h hi
  go_enter Try.func32, Try.ntmps32
  go_wp2_with fail
  refine C1.out.mono ?_
  rintro e w1 ⟨rfl, rfl⟩
  go_wp2_with fail
  go_ret
  exact ⟨rfl, rfl⟩
theorem want_full {w : World} {T i : Nat} {s : LS} (h : Low w T s) (hi : i < s.n) (hm : s.mood.getD i 0 ≠ 0) : Calls Try.prog 32 #[.pointer (some ⟨T, 0, none⟩), .int .i64 i] w fun e w' => e = .returned (.int .i64 7) ∧ w = w' := by
  have C1 := Lib.hid (check_in h hi)
  have c0 := h.cells.1
  have c1 := (h.cR hi).2
  have z1 : (0 : Int) ≤ (i : Int) ∧ (i : Int) < s.n := by omega
  obtain ⟨m, hm'⟩ : ∃ m, m = s.mood.getD i 0 := ⟨_, rfl⟩
  rw [← hm'] at c1 hm
  clear h hm'
  go_enter Try.func32, Try.ntmps32
  go_wp2_with fail
  refine C1.out.mono ?_
  rintro e w1 ⟨rfl, rfl⟩
  go_wp2_with fail
  go_ret
  exact ⟨rfl, rfl⟩
theorem want_hold {w : World} {T i : Nat} {s : LS} (h : Low w T s) (hi : i < s.n) (hm : s.mood.getD i 0 = 0) (hh : s.holder = i) : Calls Try.prog 32 #[.pointer (some ⟨T, 0, none⟩), .int .i64 i] w fun e w' => e = .returned (.int .i64 0) ∧ Mv T s w (setMd s i 2) w' := by
  have C1 := Lib.hid (check_in h hi)
  have c0 := h.cells.1
  have c1 := (h.cR hi).2
  have c2 := h.cells.2.1
  have f1 := h.fR (i * 2 + 1)
  have z1 : (0 : Int) ≤ (i : Int) ∧ (i : Int) < s.n := by omega
  rw [hm] at c1
  rw [hh] at c2
  have H := Lib.hid h
  clear h hm hh
  go_enter Try.func32, Try.ntmps32
  go_wp2_with fail
  refine C1.out.mono ?_
  rintro e w1 ⟨rfl, rfl⟩
  go_wp2_with fail
  go_ret
  exact ⟨rfl, mv_same (H.out.setMd hi 2) ((Off.refl _ _).setCell (p := ⟨s.R, i * 2 + 1, none⟩) ⟨.R, rfl⟩ _) (blk_setMd _ _ _ _)⟩
def WantRel (T : Nat) (s : LS) (w : World) (S1 : LS) (i : Nat) (no : Int) (v : Value) (wr : World) : Prop := ∃ (k : Nat) (F : Nat → Nat → Value), v = .int .i64 k ∧ k ≤ s.n ∧ Mv T s w (wantK S1 i no k F) wr
set_option maxHeartbeats 4000000 in
theorem want_send {w : World} {T i : Nat} {s : LS} (h : Low w T s) (hi : i < s.n) (hm : s.mood.getD i 0 = 0) (hh : s.holder ≠ i) (hl : ∀ a b, a < s.n → b < s.n → (s.ms a b).length ≤ 90000) (hs : 0 ≤ s.sent ∧ s.sent ≤ 100000) (hk : 0 ≤ (s.known.getD i []).getD i 0 ∧ (s.known.getD i []).getD i 0 ≤ 100000) :
    Calls Try.prog 32 #[.pointer (some ⟨T, 0, none⟩), .int .i64 i] w fun e w' => e = .returned (.int .i64 0) ∧ ∃ F, Mv T s w (wantK (setK (setMd s i 1) i i ((s.known.getD i []).getD i 0 + 1)) i ((s.known.getD i []).getD i 0 + 1) s.n F) w' := by
  obtain ⟨y, hy⟩ : ∃ y, y = (s.known.getD i []).getD i 0 := ⟨_, rfl⟩
  have C1 := Lib.hid (check_in h hi)
  have c0 := h.cells.1
  have c1 := (h.cR hi).2
  have c2 := h.cells.2.1
  have c3 := (h.cR hi).1
  have c4 := h.cK hi hi
  have f1 := h.fR (i * 2 + 1)
  have z1 : (0 : Int) ≤ (i : Int) ∧ (i : Int) < s.n := by omega
  rw [← hy] at c4 hk ⊢
  obtain ⟨S1, hS1⟩ : ∃ S, S = setK (setMd s i 1) i i (y + 1) := ⟨_, rfl⟩
  rw [← hS1]
  have HS1 := Lib.hid hS1
  clear hS1
  rw [hm] at c1
  have hmx : max y (y + 1) = y + 1 := by omega
  have HM : Hid (∀ w1, w1 = w.setCell ⟨s.R, i * 2 + 1, none⟩ (.int .i64 1) → Mv T s w (setMd s i 1) w1) := by
    rintro w1 rfl
    exact mv_same (h.setMd hi 1) ((Off.refl _ _).setCell (p := ⟨s.R, i * 2 + 1, none⟩) ⟨.R, rfl⟩ _) (blk_setMd _ _ _ _)
  have ws : IntKind.i64.wrap (y + 1) = y + 1 := IntWalk.i64_in _ (by omega)
  have hRK : s.R ≠ s.K i := h.ne (x := .R) (y := .K i) rfl (if_pos hi) (by simp)
  have hRT : s.R ≠ T := h.ne (x := .R) (y := .T) rfl rfl (by simp)
  have HY := Lib.hid hy
  have HMX := Lib.hid hmx
  have H := Lib.hid h
  obtain ⟨hd, hhd⟩ : ∃ hd, hd = s.holder := ⟨_, rfl⟩
  rw [← hhd] at c2 hh
  clear h hm hy hmx hhd
  go_enter Try.func32, Try.ntmps32
  go_wp2_with fail
  refine C1.out.mono ?_
  rintro e w1 ⟨rfl, rfl⟩
  go_wp2_with fail
  obtain ⟨W1, hW1⟩ : ∃ W1, W1 = w.setCell ⟨s.R, i * 2 + 1, none⟩ (.int .i64 1) := ⟨_, rfl⟩
  have m1 := HM.out W1 hW1
  rw [← hW1]
  have d3 : W1.cell? ⟨s.R, i * 2, none⟩ = some (.slice (some ⟨s.K i, 0, none⟩) s.n (s.Kc i)) := (m1.low.cR hi).1
  have d4 : W1.cell? ⟨s.K i, i, none⟩ = some (.int .i64 y) := by rw [HY.out]; exact m1.low.cK hi hi
  have CL : Hid (Calls Try.prog 50 #[.pointer (some ⟨s.R, i * 2, none⟩), .int .i64 i, .int .i64 (y + 1)] W1.drew fun e w' => e = .returned (.tuple #[]) ∧ Mv T (setMd s i 1) W1.drew (setK (setMd s i 1) i i (y + 1)) w') := by
    have := learn_mv (m1.low.drewN 1) hi hi (y + 1)
    rw [show ((setMd s i 1).known.getD i []).getD i 0 = y from HY.out.symm, HMX.out] at this
    exact this
  have HM1 := Lib.hid m1
  clear hW1 m1 c0 c1 c2 c3 c4 f1 C1 HM
  go_still_tail 13, (by kernel_rfl)
  change wpList _ _ _ _ _ W1.drew
  go_wp2_with fail
  refine CL.out.mono ?_
  rintro e w2 ⟨rfl, m2⟩
  have hS1 := HS1.out
  rw [← hS1] at m2
  have hM2 : Mv T s w S1 w2 := (HM1.out.drewN 1).trans m2
  have hn : S1.n = s.n := by rw [hS1]; rfl
  have hR : S1.R = s.R := by rw [hS1]; rfl
  have hK : S1.K i = s.K i := by rw [hS1]; rfl
  have hms : S1.ms = s.ms := by rw [hS1]; rfl
  have hse : S1.sent = s.sent := by rw [hS1]; rfl
  have hkn : (S1.known.getD i []).getD i 0 = y + 1 := by
    rw [hS1]
    show ((s.known.set i ((s.known.getD i []).set i (y + 1))).getD i []).getD i 0 = y + 1
    have h1 := H.out.lk
    have h2 := H.out.lki i hi
    rw [getD_set_same _ _ _ _ (by omega), getD_set_same _ _ _ _ (by omega)]
  have HN := Lib.hid hn
  have HR := Lib.hid hR
  have HKK := Lib.hid hK
  have HMS := Lib.hid hms
  have HSE := Lib.hid hse
  have HKN := Lib.hid hkn
  have HM2 := Lib.hid hM2
  have e0 : w2.cell? ⟨T, 0, none⟩ = some (.slice (some ⟨s.R, 0, none⟩) s.n S1.rc) := by rw [← HN.out, ← HR.out]; exact hM2.low.cells.1
  clear hS1 m2 hM2 hn hR hK hms hse hkn d3 d4 CL HM1
  have hn6 := H.out.hn
  go_wp2_with fail
  go_loopw [56] (fun v wr => WantRel T s w S1 i (y + 1) v wr) (fun v _ => s.n - (intOf v).toNat)
  case atStart => exact ⟨0, S1.F, rfl, Nat.zero_le _, by rw [wantK_zero]; exact HM2.out⟩
  case round =>
    clear e0
    obtain ⟨k, F, rfl, hk, hmv⟩ := hrel
    by_cases hlt : k < s.n
    · by_cases hki : k = i
      · subst hki
        have HMV := Lib.hid hmv
        clear hmv
        go_wp2_with fail
        go_roundw
        case rel => exact ⟨k + 1, F, by go_num, by omega, by rw [wantK_skip]; exact HMV.out⟩
        case measure => simp [intOf]; omega
      · have g0 : wr.cell? ⟨s.R, i * 2, none⟩ = some (.slice (some ⟨s.K i, 0, none⟩) s.n (S1.Kc i)) := by rw [← HN.out, ← HR.out, ← HKK.out]; exact (hmv.low.cR (by show i < S1.n; rw [HN.out]; exact hi)).1
        have g1 : wr.cell? ⟨s.K i, i, none⟩ = some (.int .i64 (y + 1)) := by
          rw [← HKN.out, ← HKK.out]
          exact hmv.low.cK (by show i < S1.n; rw [HN.out]; exact hi) (by show i < S1.n; rw [HN.out]; exact hi)
        have CS : Hid (Calls Try.prog 51 #[.pointer (some ⟨T, 0, none⟩), .int .i64 i, .int .i64 k, reqV (y + 1)] wr fun e w' => e = .returned (.tuple #[]) ∧ ∃ v', Mv T (wantK S1 i (y + 1) k F) wr (wantK S1 i (y + 1) (k + 1) (upd F i k v')) w') := by
          have hms : (wantK S1 i (y + 1) k F).ms i k = s.ms i k := by
            show msW S1.ms i (y + 1) k i k = _
            unfold msW
            rw [if_neg (by omega), HMS.out]
          refine (send_mv hmv.low (i := i) (j := k) (by show i < S1.n; rw [HN.out]; exact hi) (by show k < S1.n; rw [HN.out]; exact hlt) 88 (.agg #[.int .i64 (y + 1)]) (by rw [hms]; have := hl i k hi hlt; omega) ?_).mono ?_
          · show -4611686018427387904 ≤ S1.sent + cntW i k ∧ S1.sent + cntW i k ≤ 4611686018427387904
            rw [HSE.out]
            have := H.out.hn
            unfold cntW
            split <;> omega
          · rintro e w' ⟨he, v', hm'⟩
            refine ⟨he, v', ?_⟩
            have := wantK_step S1 i (y + 1) k F v' hki
            unfold reqV at this
            rw [this] at hm'
            exact hm'
        unfold reqV at CS
        have HMV := Lib.hid hmv
        have hne : (k : Int) ≠ i := by omega
        clear hmv
        go_wp2_with fail
        refine CS.out.mono ?_
        rintro e w3 ⟨rfl, v', hm3⟩
        have HM3 := Lib.hid (HMV.out.trans hm3)
        clear hm3 g0 g1 CS HMV
        go_wp2_with fail
        go_roundw
        case rel => exact ⟨k + 1, _, by go_num, by omega, HM3.out⟩
        case measure => simp [intOf]; omega
    · have hkn : k = s.n := by omega
      subst hkn
      have HMV := Lib.hid hmv
      clear hmv
      go_wp2_with fail
      go_ret
      exact ⟨rfl, F, HMV.out⟩
end Go.Proofs.Ytahjgdikjaakbaa

namespace Go.Proofs.Ytahjgdikjaakbaa
open Go.RowKit

theorem index_nil (w : World) (x : Int) : Calls Try.prog 60 #[nilV, .int .i64 x] w fun e w' => e = .returned (.int .i64 (-1)) ∧ w = w' := by
  unfold nilV
  go_enter Try.func60, Try.ntmps60
  go_wp2_with fail
  go_loop [8] (fun v => v = .int .i64 0) (fun _ => 0)
  case atStart => rfl
  case round =>
    subst hrel
    go_wp2_with fail
    go_ret
    exact ⟨rfl, rfl⟩
def IdxRel (q : List Int) (x : Int) (v : Value) : Prop := ∃ k : Nat, v = .int .i64 k ∧ k ≤ q.length ∧ ∀ j, j < k → q[j]? ≠ some x
theorem index_row {w : World} {g off c : Nat} (q : List Int) (x : Int) (hl : q.length ≤ 100000) (hq : ∀ k, k < q.length → w.cell? ⟨g, off + k, none⟩ = some (.int .i64 (q.getD k 0))) :
    Calls Try.prog 60 #[.slice (some ⟨g, off, none⟩) q.length c, .int .i64 x] w fun e w' => (∃ r : Int, e = .returned (.int .i64 r) ∧ (0 ≤ r ↔ x ∈ q)) ∧ w = w' := by
  have HQ := Lib.hid hq
  clear hq
  go_enter Try.func60, Try.ntmps60
  go_wp2_with fail
  go_loop [8] (fun v => IdxRel q x v) (fun v => q.length - (intOf v).toNat)
  case atStart => exact ⟨0, rfl, Nat.zero_le _, fun j hj => absurd hj (Nat.not_lt_zero j)⟩
  case round =>
    obtain ⟨k, rfl, hk, hno⟩ := hrel
    have HNO := Lib.hid hno
    clear hno
    by_cases hlt : k < q.length
    · have c1 := HQ.out k hlt
      have hget : q[k]? = some (q.getD k 0) := by simp [List.getD_eq_getElem?_getD, hlt]
      have HG := Lib.hid hget
      clear hget
      obtain ⟨y, hy⟩ : ∃ y, y = q.getD k 0 := ⟨_, rfl⟩
      rw [← hy] at c1 HG
      clear hy
      by_cases hxy : x = y
      · subst hxy
        go_wp2_with fail
        go_ret
        refine ⟨⟨k, rfl, ?_⟩, rfl⟩
        have hm : x ∈ q := List.mem_of_getElem? HG.out
        exact ⟨fun _ => hm, fun _ => by omega⟩
      · go_wp2_with fail
        go_round
        case rel => exact ⟨k + 1, by go_num, by omega, fun j hj => by
          by_cases e : j = k
          · subst e; rw [HG.out]; intro e2; exact hxy (Option.some.inj e2).symm
          · exact HNO.out j (by omega)⟩
        case measure => simp [intOf]; omega
    · have hkn : k = q.length := by omega
      subst hkn
      go_wp2_with fail
      go_ret
      refine ⟨⟨-1, rfl, ?_⟩, rfl⟩
      have hm : x ∉ q := fun h => by
        obtain ⟨j, hj, e⟩ := List.mem_iff_getElem.1 h
        exact HNO.out j hj (by rw [List.getElem?_eq_getElem hj, e])
      exact ⟨fun h => absurd h (by decide), fun h => absurd h hm⟩
theorem contains_calls {w : World} {v : Value} {q : List Int} (h : Sl1 w 3 v (intsV q)) (hl : q.length ≤ 100000) (x : Int) : Calls Try.prog 55 #[v, .int .i64 x] w fun e w' => e = .returned (.bool (decide (x ∈ q))) ∧ w = w' := by
  have C : Hid (Calls Try.prog 60 #[v, .int .i64 x] w fun e w' => (∃ r : Int, e = .returned (.int .i64 r) ∧ (0 ≤ r ↔ x ∈ q)) ∧ w = w') := by
    rcases h with ⟨rfl, e⟩ | ⟨g, off, c, rfl, hr⟩
    · have hq : q = [] := by simpa [intsV] using e
      subst hq
      exact (index_nil w x).mono fun _ _ ⟨h1, h2⟩ => ⟨⟨-1, h1, by simp⟩, h2⟩
    · rw [intsV_len]
      exact index_row q x hl fun k hk => by rw [hr.at k (by rw [intsV_len]; exact hk), intsV_at]
  clear h hl
  go_enter Try.func55, Try.ntmps55
  go_wp2_with fail
  refine C.out.mono ?_
  rintro e w1 ⟨⟨r, rfl, hr⟩, rfl⟩
  have HD : Hid (decide (r ≥ 0) = decide (x ∈ q)) := by show _ = _; exact decide_eq_decide.2 hr
  clear hr C
  go_wp2_with fail
  go_ret
  exact ⟨ret_bool HD.out, rfl⟩
end Go.Proofs.Ytahjgdikjaakbaa
