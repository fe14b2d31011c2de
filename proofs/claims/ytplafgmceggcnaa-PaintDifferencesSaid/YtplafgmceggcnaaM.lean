/- What is proved: Count (contracts of functions of paint, and what they need). No condition beyond those in each statement. -/
import Derived.Test.YtplafgmceggcnaaL
namespace Go.Proofs.Ytplafgmceggcnaa
open Go.RowKit
attribute [local go_sem] Oper.semAt_some

theorem leaves_len (below : Nat) (good : List Int → Bool) : ∀ (f : Nat) (l : List Int), (leaves below good f l).length ≤ below ^ f := by
  intro f
  induction f with
  | zero => intro l; simp [leaves]
  | succ f ih =>
    intro l
    have key : ∀ (d c : Nat), below = c + d → (leavesFrom below good f l c).length ≤ d * below ^ f := by
      intro d
      induction d with
      | zero => intro c hc; rw [leavesFrom_end (by omega)]; simp
      | succ d ihd =>
        intro c hc
        rw [leavesFrom_step (by omega), List.length_append, Nat.add_mul, Nat.one_mul, Nat.add_comm]
        refine Nat.add_le_add (ihd (c + 1) (by omega)) ?_
        split
        · exact ih _
        · exact Nat.zero_le _
    rw [leaves_succ, Nat.pow_succ, Nat.mul_comm]
    exact key below 0 (by omega)

def CountN (n k l : Int) : Int × Int := if (1 ≤ n ∧ n ≤ 5) ∧ (2 ≤ k ∧ k ≤ 4) ∧ (2 ≤ l ∧ l ≤ 4) then (((avoidL n.toNat k l).length : Nat), 0) else (0, 1)
theorem CountN_err {n k l : Int} (h : ¬((1 ≤ n ∧ n ≤ 5) ∧ (2 ≤ k ∧ k ≤ 4) ∧ (2 ≤ l ∧ l ≤ 4))) : CountN n k l = (0, 1) := if_neg h
theorem CountN_ok {n : Nat} {k l : Int} (h : (1 ≤ n ∧ n ≤ 5) ∧ (2 ≤ k ∧ k ≤ 4) ∧ (2 ≤ l ∧ l ≤ 4)) : CountN n k l = ((((avoidL n k l).length : Nat) : Int), 0) := if_pos (by omega)
def CountI (b : Nat) (done : List (List Int)) (W : World) : Prop := W.cell? ⟨b, 0, none⟩ = some (.int .i64 done.length) ∧ W.frozen? ⟨b, 0, none⟩ = false

set_option maxHeartbeats 4000000 in
theorem count_calls (n k l : Int) (w : World) : Calls Try.prog 36 #[.int .i64 n, .int .i64 k, .int .i64 l] w fun e w' => e = .returned (.tuple #[.int .i64 (CountN n k l).1, .int .i64 (CountN n k l).2]) ∧ Below w.heap.size w w' := by
  by_cases hr : (1 ≤ n ∧ n ≤ 5) ∧ (2 ≤ k ∧ k ≤ 4) ∧ (2 ≤ l ∧ l ≤ 4)
  · obtain ⟨m, rfl⟩ : ∃ m : Nat, n = m := ⟨n.toNat, by omega⟩
    have hr' : (1 ≤ m ∧ m ≤ 5) ∧ (2 ≤ k ∧ k ≤ 4) ∧ (2 ≤ l ∧ l ≤ 4) := by omega
    obtain ⟨⟨q1, q2⟩, ⟨q3, q4⟩, q5, q6⟩ := hr
    have HR := Lib.hid hr'
    have hm : m ≤ 8 := by omega
    clear hr'
    obtain ⟨wa, hwa⟩ : ∃ wa, wa = w.alloc (.cells #[.int .i64 0] 3) := ⟨_, rfl⟩
    have HWA := Lib.hid hwa
    obtain ⟨gd, hgd⟩ : ∃ q, q = goodW m k l := ⟨_, rfl⟩
    have HGD := Lib.hid hgd
    clear hgd
    clear hwa
    have c1 := Lib.hid (pairs_calls m hm wa)
    have c2 := Lib.hid (without_calls m hm k l wa)
    rcases Int.lt_trichotomy k l with hkl | hkl | hkl
    all_goals
      try subst hkl
      refine (callsIn_wide (n := 0)).1 ?_
      refine callsIn_of_wp_marks Try.func36 rfl trivial ?_ rfl
      simp only [Try.ntmps36, List.size_toArray, List.length_cons, List.length_nil, Nat.reduceAdd, Nat.reduceSub, Array.replicate_succ, Array.replicate_zero, List.push_toArray, List.append_toArray, List.nil_append, List.cons_append]
      gi_wp2_with fail
      refine ⟨trivial, rfl, ?_⟩
      rw [← HWA.out]
      refine (callsIn_wide.2 c1.out).mono ?_
      rintro e w1 ⟨rfl, rfl⟩
      gi_wp2_with fail
      refine ⟨trivial, rfl, ?_⟩
      refine (callsIn_wide.2 c2.out).mono ?_
      rintro e w1 ⟨J, hNJ, rfl, hB, h1, h2, h3, ⟨sv, h4, h6⟩, h5⟩
      gi_wp2_with fail
      refine ⟨trivial, rfl, ?_⟩
      refine (callsIn_wide.2 (colorings_calls _ _ _ _ _ _)).mono ?_
      rintro e w2 ⟨rfl, hw2⟩
      have eA1 : wa.cell? ⟨w.heap.size, 0, none⟩ = some (.int .i64 0) := by rw [HWA.out]; exact cell_new _ _ _ _ rfl
      have eA2 : wa.frozen? ⟨w.heap.size, 0, none⟩ = false := by rw [HWA.out]; exact frozen_new _ _ _ _ rfl
      have hsz : wa.heap.size = w.heap.size + 1 := by rw [HWA.out]; simp
      have hBw : Below w.heap.size w wa := by rw [HWA.out]; exact (Below.refl _ _).alloc (Nat.le_refl _) _
      have hlt : w.heap.size < wa.heap.size := by omega
      have hJl := cell_lt h5
      have hNl := cell_lt h4
      have hG := without_good (fun k => k = w.heap.size) m hm _ _ (by omega) (by omega) wa.heap.size J w1 hNl hJl hNJ (fun _ h => by omega) h1 h2 h3 ⟨sv, h4, h6⟩ h5
      obtain ⟨e1, e2, e3, e4⟩ := box3 w1 (.int .i64 ((npairs m : Nat) : Int)) (.int .i64 2) (.func (.func 60) #[] #[.pointer (some ⟨wa.heap.size + 3, 0, none⟩), .pointer (some ⟨wa.heap.size + 1, 0, none⟩), .pointer (some ⟨wa.heap.size + 2, 0, none⟩), .pointer (some ⟨J, 0, none⟩)]) 3 3 63
      have hB2 : Below w1.heap.size w1 w2 := by
        rw [← hw2]; exact (((Below.refl _ _).alloc (Nat.le_refl _) _).alloc (by simp) _).alloc (by simp; omega) _
      rw [hw2] at e1 e2 e3 e4
      have hI0 : CountI w.heap.size [] w2 := ⟨(hB2.cell (p := ⟨w.heap.size, 0, none⟩) (by show w.heap.size < _; have := hB.size; omega)).trans ((hB.cell (p := ⟨w.heap.size, 0, none⟩) hlt).trans eA1),
        (hB2.frozen (p := ⟨w.heap.size, 0, none⟩) (by show w.heap.size < _; have := hB.size; omega)).trans ((hB.frozen (p := ⟨w.heap.size, 0, none⟩) hlt).trans eA2)⟩
      rw [← HGD.out] at hG
      have HG := Lib.hid hG
      have hszB := hB.size
      have hszB2 := hB2.size
      have HBW1 := Lib.hid (hBw.trans (hB.mono hBw.size))
      have HL := Lib.hid (leaves_len 2 gd (npairs m) [])
      have hnp := npairs_le m hm
      clear hG eA1 eA2 hB h1 h2 h3 h4 h5 h6 hw2 hBw
      gi_wp2_with fail
      refine range63 60 _ (fun _ _ => rfl) gd (fun k => k = w.heap.size) w1 (npairs m) 2 (by omega) (by omega) HG.out rfl rfl e1 e2 e3 (Off.of_below hB2) (fun k => k = w.heap.size) (fun k hk => ⟨.inl hk, by omega⟩)
        (CountI w.heap.size) (fun _ _ => False)
        (fun s W W' h hk => ⟨hk.cell h.1, (hk.frozen h.1).trans h.2⟩)
        (fun s W W' h hk => h) hI0 ?body ?done ?stop
      case body =>
        rintro l' done xs A n c W ⟨hb1, hf1⟩ hpre hn hA hnc hc
        have hdl : done.length < 1024 := by
          have h1 := hpre.length_le
          have h2 := HL.out
          have h3 : 2 ^ npairs m ≤ 2 ^ 10 := Nat.pow_le_pow_right (by omega) (by have : ∀ m, m ≤ 5 → npairs m ≤ 10 := by decide
                                                                                 exact this m (by omega))
          simp at h1; omega
        clear hpre hn hA hnc hc e1 e2 e3 e4 hI0 hB2
        gi_wp2_with fail
        refine ⟨trivial, ?_⟩
        intro W' hk
        have d1 := hk.cell hb1
        have f1 := (hk.frozen hb1).trans hf1
        clear hk hb1 hf1
        gi_wp2_with fail
        refine ⟨⟨?_, by rw [World.frozen?_setCell]; exact f1⟩, Off.setCell _ rfl⟩
        rw [List.length_append]
        exact cell_set_self d1
      case done =>
        rintro D W hDle ⟨hb1, hf1⟩ hO hD
        have HO := Lib.hid hO
        clear hO e1 e2 e3 e4 hI0 hB2
        gi_wp2_with fail
        refine ⟨by simp, .inl ⟨_, _, rfl, run_takeDeferred hD, ?_⟩⟩
        refine ⟨.tuple #[.int .i64 ((leaves 2 gd (npairs m) []).length : Nat), .int .i64 0], ?_, ?_⟩
        · simp [results, Try.results36, go_sem]
        · rw [CountN_ok HR.out, show avoidL m _ _ = leaves 2 gd (npairs m) [] from by rw [HGD.out]; rfl]
          refine ⟨rfl, ?_⟩
          have hb := HO.out.below (B := w.heap.size) (by omega) (fun k hk => by omega)
          exact (HBW1.out.trans hb).trans ((Off.putObj (M := fun k => k = D) _ rfl).below (by have := hb.size; omega) (fun k hk => by omega))
      case stop =>
        rintro D q W hDle hq hf
        exact hf.elim
  · have HE := Lib.hid (CountN_err hr)
    have H2 : Hid ((1 ≤ n ∧ n ≤ 5) ∧ (2 ≤ k ∧ k ≤ 4) ∧ (2 ≤ l ∧ l ≤ 4) → False) := hr
    clear hr
    go_enter Try.func36, Try.ntmps36
    go_wp2_with fail
    all_goals first
      | (exfalso; exact H2.out (by omega))
      | (go_ret2; rw [HE.out]; exact ⟨rfl, Below.refl _ _⟩)
end Go.Proofs.Ytplafgmceggcnaa
