/- What is proved: the reference of Count (contracts of functions of paint, and what they need). No condition beyond those in each statement. -/
import Derived.Test.YtplafgmceggcnaaS
namespace Go.Proofs.Ytplafgmceggcnaa
open Go.RowKit

/-- The reference's count. -/
def refC (bad : List Int → Bool) : Nat → List Int → Nat
  | 0, l => if bad l then 0 else 1
  | f + 1, l => if bad l then 0 else refC bad f (l ++ [0]) + refC bad f (l ++ [1])
theorem refC_bad {bad : List Int → Bool} {f : Nat} {l : List Int} (h : bad l = true) : refC bad f l = 0 := by cases f <;> simp [refC, h]
theorem refC_zero {bad : List Int → Bool} {l : List Int} (h : bad l = false) : refC bad 0 l = 1 := by simp [refC, h]
theorem refC_succ {bad : List Int → Bool} {f : Nat} {l : List Int} (h : bad l = false) : refC bad (f + 1) l = refC bad f (l ++ [0]) + refC bad f (l ++ [1]) := by simp [refC, h]
theorem refC_le {bad : List Int → Bool} : ∀ {f : Nat} {l : List Int}, refC bad f l ≤ 2 ^ f
  | 0, l => by unfold refC; split <;> simp
  | f + 1, l => by
    unfold refC
    split
    · exact Nat.zero_le _
    · have h1 := @refC_le bad f (l ++ [0])
      have h2 := @refC_le bad f (l ++ [1])
      rw [Nat.pow_succ]; omega

set_option maxHeartbeats 8000000 in
theorem refcount_calls (n : Nat) (hn : n ≤ 8) (k l0 : Int) (hk : 2 ≤ k ∧ k ≤ 4) (hl : 2 ≤ l0 ∧ l0 ≤ 4) (np : Nat) (hnp : np = npairs n) (f : Nat) :
    ∀ (a : Addr) (nl cl : Nat) (l : List Int) (w : World), nl = l.length → nl + f = np → Rd w (some a) l → nl ≤ cl → cl ≤ 9223372036854775807 →
      Calls Try.prog 37 #[.int .i64 n, .int .i64 k, .int .i64 l0, .slice (some a) nl cl] w fun e w' => e = .returned (.int .i64 (refC (badA n k l0) f l : Nat)) ∧ Below w.heap.size w w' := by
  have hnp2 : np ≤ 28 := by rw [hnp]; exact npairs_le n hn
  have hm := npairs_mul n hn
  rw [← hnp] at hm
  have HNP := Lib.hid hnp
  clear hnp
  induction f with
  | zero =>
    intro a nl cl l w hnl hf hA h1 h2
    have HNL := Lib.hid hnl
    have HA := Lib.hid hA
    have CS := Lib.hid (fun (h : 1 ≤ nl) => closed_calls n hn (some a) nl cl l k l0 w hk hl hnl h (by rw [← HNP.out]; omega) hA h1 h2)
    have HM := Lib.hid hm
    clear hnl hA hm
    have wm1 : IntKind.i64.wrap ((n : Int) * ((n : Int) - 1)) = 2 * (np : Int) := by rw [HM.out]; exact IntWalk.i64_in _ (by omega)
    have wm2 : Int.tdiv (2 * (np : Int)) 2 = np := Int.mul_tdiv_cancel_left _ (by decide)
    by_cases hz : 1 ≤ nl
    · skip
      have hne : ((nl : Int) == (np : Int)) = true := by
        rw [beq_iff_eq]; omega
      clear hf
      go_enter Try.func37, Try.ntmps37
      go_wp2_with fail
      refine (CS.out hz).mono ?_
      rintro e w1 ⟨rfl, hB⟩
      have HB := Lib.hid hB
      clear hB
      have hem : l.isEmpty = false := by
        cases l with
        | nil => have := HNL.out; simp at this; omega
        | cons => rfl
      have HEM := Lib.hid hem
      clear hem
      cases hs : closedF n k l0 l
      rotate_left
      · have HS : Hid (refC (badA n k l0) 0 l = 0) := refC_bad (by unfold badA; rw [HEM.out, hs]; rfl)
        have HC := Lib.hid hs
        clear hs
        go_wp2_with fail
        go_ret
        exact ⟨ret_int (by rw [HS.out]; rfl), HB.out⟩
      · have HS : Hid (refC (badA n k l0) 0 l = 1) := refC_zero (by unfold badA; rw [HEM.out, hs]; rfl)
        have HC := Lib.hid hs
        clear hs
        go_wp2_with fail
        go_ret
        exact ⟨ret_int (by rw [HS.out]; rfl), HB.out⟩
    · skip
      have hne : ((nl : Int) == (np : Int)) = true := by
        rw [beq_iff_eq]; omega
      clear hf
      go_enter Try.func37, Try.ntmps37
      have hem : l.isEmpty = true := by
        cases l with
        | nil => rfl
        | cons => have := HNL.out; simp at this; omega
      have HB := Lib.hid (Below.refl w.heap.size w)
      · have HS : Hid (refC (badA n k l0) 0 l = 1) := refC_zero (by unfold badA; rw [hem]; rfl)
        clear hem
        go_wp2_with fail
        go_ret
        exact ⟨ret_int (by rw [HS.out]; rfl), HB.out⟩
  | succ f ih =>
    intro a nl cl l w hnl hf hA h1 h2
    have HNL := Lib.hid hnl
    have HA := Lib.hid hA
    have HIH := Lib.hid ih
    clear ih
    have CS := Lib.hid (fun (h : 1 ≤ nl) => closed_calls n hn (some a) nl cl l k l0 w hk hl hnl h (by rw [← HNP.out]; omega) hA h1 h2)
    have HM := Lib.hid hm
    clear hnl hA hm
    have wm1 : IntKind.i64.wrap ((n : Int) * ((n : Int) - 1)) = 2 * (np : Int) := by rw [HM.out]; exact IntWalk.i64_in _ (by omega)
    have wm2 : Int.tdiv (2 * (np : Int)) 2 = np := Int.mul_tdiv_cancel_left _ (by decide)
    by_cases hz : 1 ≤ nl
    · skip
      have hne : ((nl : Int) == (np : Int)) = false := by
        rw [beq_eq_false_iff_ne]; omega
      go_enter Try.func37, Try.ntmps37
      go_wp2_with fail
      refine (CS.out hz).mono ?_
      rintro e w1 ⟨rfl, hB⟩
      have HB := Lib.hid hB
      clear hB
      have hem : l.isEmpty = false := by
        cases l with
        | nil => have := HNL.out; simp at this; omega
        | cons => rfl
      have HEM := Lib.hid hem
      clear hem
      cases hs : closedF n k l0 l
      rotate_left
      · have HS : Hid (refC (badA n k l0) (f + 1) l = 0) := refC_bad (by unfold badA; rw [HEM.out, hs]; rfl)
        have HC := Lib.hid hs
        clear hs
        go_wp2_with fail
        go_ret
        exact ⟨ret_int (by rw [HS.out]; rfl), HB.out⟩
      · have HS : Hid (refC (badA n k l0) (f + 1) l = refC (badA n k l0) f (l ++ [0]) + refC (badA n k l0) f (l ++ [1])) := refC_succ (by unfold badA; rw [HEM.out, hs]; rfl)
        have HC := Lib.hid hs
        clear hs
        have CA := Lib.hid (fun (x : Int) (W : World) (hW : Below w.heap.size w W) => cp_push (w := W) (L := some a) (nl := nl) (cl := cl) x HNL.out (HA.out.below hW) (fun h => by cases h) (by have := HNL.out; omega))
        obtain ⟨v1, w2, A, nn, cc, w3, hr1, hr2, hnn, hcc1, hcc2, hrd, hb3⟩ := CA.out 0 _ HB.out
        have HR1 := Lib.hid hr1
        have HR2 := Lib.hid hr2
        have HB3 := Lib.hid (HB.out.trans (hb3.mono HB.out.size))
        have CI := Lib.hid (HIH.out A nn cc (l ++ [0]) w3 hnn (by rw [hnn, List.length_append, ← HNL.out]; simp; omega) hrd hcc1 hcc2)
        clear hr1 hr2 hnn hcc1 hcc2 hrd hb3
        go_wp2_with (first | (at_builtin; refine wpList_app rfl (.tmp 30) (.tmp 31) 22 22 rfl rfl _ _ rfl rfl HR1.out ?_) | (at_builtin; refine wpList_app rfl (.tmp 32) (.tmp 33) 22 22 rfl rfl _ _ rfl rfl HR2.out ?_))
        clear hne wm1 wm2
        refine CI.out.mono ?_
        rintro e w4 ⟨rfl, hB4⟩
        have HB4 := Lib.hid (HB3.out.trans (hB4.mono HB3.out.size))
        clear hB4
        obtain ⟨v1', w2', A', nn', cc', w3', hr1, hr2, hnn, hcc1, hcc2, hrd, hb3⟩ := CA.out 1 _ HB4.out
        have HR1' := Lib.hid hr1
        have HR2' := Lib.hid hr2
        have HB3' := Lib.hid (HB4.out.trans (hb3.mono HB4.out.size))
        have CI' := Lib.hid (HIH.out A' nn' cc' (l ++ [1]) w3' hnn (by rw [hnn, List.length_append, ← HNL.out]; simp; omega) hrd hcc1 hcc2)
        clear hr1 hr2 hnn hcc1 hcc2 hrd hb3
        go_wp2_with (first | (at_builtin; refine wpList_app rfl (.tmp 39) (.tmp 40) 22 22 rfl rfl _ _ rfl rfl HR1'.out ?_) | (at_builtin; refine wpList_app rfl (.tmp 41) (.tmp 42) 22 22 rfl rfl _ _ rfl rfl HR2'.out ?_))
        refine CI'.out.mono ?_
        rintro e w5 ⟨rfl, hB5⟩
        have HB5 := Lib.hid (HB3'.out.trans (hB5.mono HB3'.out.size))
        clear hB5
        have q1 := @refC_le (badA n k l0) f (l ++ [0])
        have q2 := @refC_le (badA n k l0) f (l ++ [1])
        have q3 : 2 ^ f ≤ 2 ^ 28 := Nat.pow_le_pow_right (by omega) (by omega)
        obtain ⟨c1, hc1⟩ : ∃ c, c = refC (badA n k l0) f (l ++ [0]) := ⟨_, rfl⟩
        obtain ⟨c2, hc2⟩ : ∃ c, c = refC (badA n k l0) f (l ++ [1]) := ⟨_, rfl⟩
        rw [← hc1] at q1 ⊢
        rw [← hc2] at q2 ⊢
        have HC1 := Lib.hid hc1
        have HC2 := Lib.hid hc2
        clear hc1 hc2
        have q4 : c1 ≤ 268435456 := by omega
        have q5 : c2 ≤ 268435456 := by omega
        clear q1 q2 q3
        go_wp2_with fail
        go_ret
        exact ⟨ret_int (by rw [HS.out, ← HC1.out, ← HC2.out]; omega), HB5.out⟩
    · skip
      have hne : ((nl : Int) == (np : Int)) = false := by
        rw [beq_eq_false_iff_ne]; omega
      go_enter Try.func37, Try.ntmps37
      have hem : l.isEmpty = true := by
        cases l with
        | nil => rfl
        | cons => have := HNL.out; simp at this; omega
      have HB := Lib.hid (Below.refl w.heap.size w)
      · have HS : Hid (refC (badA n k l0) (f + 1) l = refC (badA n k l0) f (l ++ [0]) + refC (badA n k l0) f (l ++ [1])) := refC_succ (by unfold badA; rw [hem]; rfl)
        clear hem
        have CA := Lib.hid (fun (x : Int) (W : World) (hW : Below w.heap.size w W) => cp_push (w := W) (L := some a) (nl := nl) (cl := cl) x HNL.out (HA.out.below hW) (fun h => by cases h) (by have := HNL.out; omega))
        obtain ⟨v1, w2, A, nn, cc, w3, hr1, hr2, hnn, hcc1, hcc2, hrd, hb3⟩ := CA.out 0 _ HB.out
        have HR1 := Lib.hid hr1
        have HR2 := Lib.hid hr2
        have HB3 := Lib.hid (HB.out.trans (hb3.mono HB.out.size))
        have CI := Lib.hid (HIH.out A nn cc (l ++ [0]) w3 hnn (by rw [hnn, List.length_append, ← HNL.out]; simp; omega) hrd hcc1 hcc2)
        clear hr1 hr2 hnn hcc1 hcc2 hrd hb3
        go_wp2_with (first | (at_builtin; refine wpList_app rfl (.tmp 30) (.tmp 31) 22 22 rfl rfl _ _ rfl rfl HR1.out ?_) | (at_builtin; refine wpList_app rfl (.tmp 32) (.tmp 33) 22 22 rfl rfl _ _ rfl rfl HR2.out ?_))
        clear hne wm1 wm2
        refine CI.out.mono ?_
        rintro e w4 ⟨rfl, hB4⟩
        have HB4 := Lib.hid (HB3.out.trans (hB4.mono HB3.out.size))
        clear hB4
        obtain ⟨v1', w2', A', nn', cc', w3', hr1, hr2, hnn, hcc1, hcc2, hrd, hb3⟩ := CA.out 1 _ HB4.out
        have HR1' := Lib.hid hr1
        have HR2' := Lib.hid hr2
        have HB3' := Lib.hid (HB4.out.trans (hb3.mono HB4.out.size))
        have CI' := Lib.hid (HIH.out A' nn' cc' (l ++ [1]) w3' hnn (by rw [hnn, List.length_append, ← HNL.out]; simp; omega) hrd hcc1 hcc2)
        clear hr1 hr2 hnn hcc1 hcc2 hrd hb3
        go_wp2_with (first | (at_builtin; refine wpList_app rfl (.tmp 39) (.tmp 40) 22 22 rfl rfl _ _ rfl rfl HR1'.out ?_) | (at_builtin; refine wpList_app rfl (.tmp 41) (.tmp 42) 22 22 rfl rfl _ _ rfl rfl HR2'.out ?_))
        refine CI'.out.mono ?_
        rintro e w5 ⟨rfl, hB5⟩
        have HB5 := Lib.hid (HB3'.out.trans (hB5.mono HB3'.out.size))
        clear hB5
        have q1 := @refC_le (badA n k l0) f (l ++ [0])
        have q2 := @refC_le (badA n k l0) f (l ++ [1])
        have q3 : 2 ^ f ≤ 2 ^ 28 := Nat.pow_le_pow_right (by omega) (by omega)
        obtain ⟨c1, hc1⟩ : ∃ c, c = refC (badA n k l0) f (l ++ [0]) := ⟨_, rfl⟩
        obtain ⟨c2, hc2⟩ : ∃ c, c = refC (badA n k l0) f (l ++ [1]) := ⟨_, rfl⟩
        rw [← hc1] at q1 ⊢
        rw [← hc2] at q2 ⊢
        have HC1 := Lib.hid hc1
        have HC2 := Lib.hid hc2
        clear hc1 hc2
        have q4 : c1 ≤ 268435456 := by omega
        have q5 : c2 ≤ 268435456 := by omega
        clear q1 q2 q3
        go_wp2_with fail
        go_ret
        exact ⟨ret_int (by rw [HS.out, ← HC1.out, ← HC2.out]; omega), HB5.out⟩
end Go.Proofs.Ytplafgmceggcnaa
