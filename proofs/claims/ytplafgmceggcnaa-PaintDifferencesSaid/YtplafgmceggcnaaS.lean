/- What is proved: the reference of Avoid (contracts of functions of paint, and what they need). No condition beyond those in each statement. -/
import Derived.Test.YtplafgmceggcnaaR
namespace Go.Proofs.Ytplafgmceggcnaa
open Go.RowKit

def badA (n : Nat) (k l : Int) (cs : List Int) : Bool := !cs.isEmpty && closedF n k l cs
theorem npairs_mul : ∀ n : Nat, n ≤ 8 → (n : Int) * ((n : Int) - 1) = 2 * (npairs n : Nat) := by decide

set_option maxHeartbeats 8000000 in
theorem refavoid_calls (n : Nat) (hn : n ≤ 8) (k l0 : Int) (hk : 2 ≤ k ∧ k ≤ 4) (hl : 2 ≤ l0 ∧ l0 ≤ 4) (np : Nat) (hnp : np = npairs n) (f : Nat) :
    ∀ (a : Addr) (nl cl : Nat) (l : List Int) (w : World), nl = l.length → nl + f = np → Rd w (some a) l → nl ≤ cl → cl ≤ 9223372036854775807 →
      Calls Try.prog 24 #[.int .i64 n, .int .i64 k, .int .i64 l0, .slice (some a) nl cl] w fun e w' => ∃ v, e = .returned v ∧ OptSl w' v (refS 2 (badA n k l0) f l) ∧ Below w.heap.size w w' := by
  have hnp2 : np ≤ 28 := by rw [hnp]; exact npairs_le n hn
  have hm := npairs_mul n hn
  rw [← hnp] at hm
  have HNP := Lib.hid hnp
  clear hnp
  induction f with
  | zero =>
    intro a nl cl l w hnl hf hA h1 h2
    have qN : ∀ (w : World) (a : Option Addr) (n c n' c' : Nat), (binOp .neq 22 (.slice a n c) (.slice none n' c')).run Try.prog w = .ok (.bool (!a.isNone)) w := fun w a n c n' c' => run_neq_slice_nil_any w _ _ a n c n' c' Try.underlying22
    have HNL := Lib.hid hnl
    have HA := Lib.hid hA
    have CS := Lib.hid (fun (h : 1 ≤ nl) => closed_calls n hn (some a) nl cl l k l0 w hk hl hnl h (by rw [← HNP.out]; omega) hA h1 h2)
    have HM := Lib.hid hm
    clear hnl hA hm
    have wm1 : IntKind.i64.wrap ((n : Int) * ((n : Int) - 1)) = 2 * (np : Int) := by rw [HM.out]; exact IntWalk.i64_in _ (by omega)
    have wm2 : Int.tdiv (2 * (np : Int)) 2 = np := Int.mul_tdiv_cancel_left _ (by decide)
    by_cases hz : 1 ≤ nl
    · skip
      have hne : ((nl : Int) == (np : Int)) = true := by
        rw [beq_iff_eq]; omega
      clear hf
      go_enter Try.func24, Try.ntmps24
      go_wp2_with fail
      refine (CS.out hz).mono ?_
      rintro e w1 ⟨rfl, hB⟩
      have HB := Lib.hid hB
      clear hB
      have hem : l.isEmpty = false := by
        cases l with
        | nil => have := HNL.out; simp at this; omega
        | cons => rfl
      have HEM := Lib.hid hem
      clear hem
      cases hs : closedF n k l0 l
      rotate_left
      · have HS : Hid (refS 2 (badA n k l0) 0 l = none) := refS_bad (by unfold badA; rw [HEM.out, hs]; rfl)
        have HC := Lib.hid hs
        clear hs
        go_wp2_with fail
        go_ret
        exact ⟨_, rfl, by rw [HS.out]; rfl, HB.out⟩
      · have HS : Hid (refS 2 (badA n k l0) 0 l = some l) := refS_zero (by unfold badA; rw [HEM.out, hs]; rfl)
        have HC := Lib.hid hs
        clear hs
        go_wp2_with fail
        go_ret
        exact ⟨_, rfl, by rw [HS.out]; exact ⟨⟨_, _, _, rfl⟩, some a, cl, by rw [HNL.out]; rfl, by have := HNL.out; omega, h2, fun h => (by cases h), HA.out.below HB.out⟩, HB.out⟩
    · skip
      have hne : ((nl : Int) == (np : Int)) = true := by
        rw [beq_iff_eq]; omega
      clear hf
      go_enter Try.func24, Try.ntmps24
      have hem : l.isEmpty = true := by
        cases l with
        | nil => rfl
        | cons => have := HNL.out; simp at this; omega
      have HB := Lib.hid (Below.refl w.heap.size w)
      · have HS : Hid (refS 2 (badA n k l0) 0 l = some l) := refS_zero (by unfold badA; rw [hem]; rfl)
        clear hem
        go_wp2_with fail
        go_ret
        exact ⟨_, rfl, by rw [HS.out]; exact ⟨⟨_, _, _, rfl⟩, some a, cl, by rw [HNL.out]; rfl, by have := HNL.out; omega, h2, fun h => (by cases h), HA.out.below HB.out⟩, HB.out⟩
  | succ f ih =>
    intro a nl cl l w hnl hf hA h1 h2
    have qN : ∀ (w : World) (a : Option Addr) (n c n' c' : Nat), (binOp .neq 22 (.slice a n c) (.slice none n' c')).run Try.prog w = .ok (.bool (!a.isNone)) w := fun w a n c n' c' => run_neq_slice_nil_any w _ _ a n c n' c' Try.underlying22
    have HNL := Lib.hid hnl
    have HA := Lib.hid hA
    have HIH := Lib.hid ih
    clear ih
    have CS := Lib.hid (fun (h : 1 ≤ nl) => closed_calls n hn (some a) nl cl l k l0 w hk hl hnl h (by rw [← HNP.out]; omega) hA h1 h2)
    have HM := Lib.hid hm
    clear hnl hA hm
    have wm1 : IntKind.i64.wrap ((n : Int) * ((n : Int) - 1)) = 2 * (np : Int) := by rw [HM.out]; exact IntWalk.i64_in _ (by omega)
    have wm2 : Int.tdiv (2 * (np : Int)) 2 = np := Int.mul_tdiv_cancel_left _ (by decide)
    by_cases hz : 1 ≤ nl
    · skip
      have hne : ((nl : Int) == (np : Int)) = false := by
        rw [beq_eq_false_iff_ne]; omega
      go_enter Try.func24, Try.ntmps24
      go_wp2_with fail
      refine (CS.out hz).mono ?_
      rintro e w1 ⟨rfl, hB⟩
      have HB := Lib.hid hB
      clear hB
      have hem : l.isEmpty = false := by
        cases l with
        | nil => have := HNL.out; simp at this; omega
        | cons => rfl
      have HEM := Lib.hid hem
      clear hem
      cases hs : closedF n k l0 l
      rotate_left
      · have HS : Hid (refS 2 (badA n k l0) (f + 1) l = none) := refS_bad (by unfold badA; rw [HEM.out, hs]; rfl)
        have HC := Lib.hid hs
        clear hs
        go_wp2_with fail
        go_ret
        exact ⟨_, rfl, by rw [HS.out]; rfl, HB.out⟩
      · have HS : Hid (refS 2 (badA n k l0) (f + 1) l = firstFrom (fun c => refS 2 (badA n k l0) f (l ++ [(c : Int)])) 2 0) := refS_succ (by unfold badA; rw [HEM.out, hs]; rfl)
        have HC := Lib.hid hs
        clear hs
        go_wp2_with fail
        clear hne wm1 wm2
        go_loopw [9] (NextI w 2 (fun c => refS 2 (badA n k l0) f (l ++ [(c : Int)])) (refS 2 (badA n k l0) (f + 1) l)) (fun v _ => 2 - (intOf v).toNat)
        case atStart => exact ⟨0, rfl, Nat.zero_le _, HS.out, HB.out⟩
        case round =>
          obtain ⟨c, rfl, hc, HG, HB2⟩ := hrel
          by_cases hlt : c < 2
          · obtain ⟨v1, w2, A, nn, cc, w3, hr1, hr2, hnn, hcc1, hcc2, hrd, hb3⟩ := cp_push (L := some a) (nl := nl) (cl := cl) (c : Int) HNL.out (HA.out.below HB2.out) (fun h => by cases h) (by have := HNL.out; omega)
            have HR1 := Lib.hid hr1
            have HR2 := Lib.hid hr2
            have HB3 := Lib.hid (HB2.out.trans (hb3.mono HB2.out.size))
            have CI := Lib.hid (HIH.out A nn cc (l ++ [(c : Int)]) w3 hnn (by rw [hnn, List.length_append, ← HNL.out]; simp; omega) hrd hcc1 hcc2)
            clear hr1 hr2 hnn hcc1 hcc2 hrd hb3
            go_wp2_with (first | (at_builtin; refine wpList_app rfl (.tmp 37) (.tmp 38) 22 22 rfl rfl _ _ rfl rfl HR1.out ?_) | (at_builtin; refine wpList_app rfl (.tmp 39) (.tmp 41) 22 22 rfl rfl _ _ rfl rfl HR2.out ?_))
            refine CI.out.mono ?_
            rintro e w4 ⟨v, rfl, ho, hB4⟩
            have HB4 := Lib.hid (HB3.out.trans (hB4.mono HB3.out.size))
            clear hB4
            cases hg : refS 2 (badA n k l0) f (l ++ [(c : Int)]) with
            | none =>
              rw [hg] at ho
              obtain rfl : v = .slice none 0 0 := ho
              have HG2 := Lib.hid hg
              clear hg
              go_wp2_with fail
              go_simp
              go_roundw
              case rel => exact ⟨c + 1, by go_num, by omega, by show _ = _; rw [HG.out, show 2 - c = 2 - (c + 1) + 1 by omega]; exact firstFrom_none HG2.out, HB4.out⟩
              case measure => simp [intOf]; omega
            | some q =>
              rw [hg] at ho
              have HO := Lib.hid ho
              obtain ⟨⟨a', n', c', rfl⟩, _⟩ := ho
              have HG2 := Lib.hid hg
              clear hg
              go_wp2_with fail
              go_ret
              exact ⟨_, rfl, by rw [HG.out, show 2 - c = 2 - (c + 1) + 1 by omega, firstFrom_some HG2.out]; exact HO.out, HB4.out⟩
          · have HE : Hid (refS 2 (badA n k l0) (f + 1) l = none) := by
              have := HG.out
              rw [show 2 - c = 0 by omega] at this; exact this
            go_wp2_with fail
            go_ret
            exact ⟨_, rfl, by rw [HE.out]; rfl, HB2.out⟩
    · skip
      have hne : ((nl : Int) == (np : Int)) = false := by
        rw [beq_eq_false_iff_ne]; omega
      go_enter Try.func24, Try.ntmps24
      have hem : l.isEmpty = true := by
        cases l with
        | nil => rfl
        | cons => have := HNL.out; simp at this; omega
      have HB := Lib.hid (Below.refl w.heap.size w)
      · have HS : Hid (refS 2 (badA n k l0) (f + 1) l = firstFrom (fun c => refS 2 (badA n k l0) f (l ++ [(c : Int)])) 2 0) := refS_succ (by unfold badA; rw [hem]; rfl)
        clear hem
        go_wp2_with fail
        clear hne wm1 wm2
        go_loopw [9] (NextI w 2 (fun c => refS 2 (badA n k l0) f (l ++ [(c : Int)])) (refS 2 (badA n k l0) (f + 1) l)) (fun v _ => 2 - (intOf v).toNat)
        case atStart => exact ⟨0, rfl, Nat.zero_le _, HS.out, HB.out⟩
        case round =>
          obtain ⟨c, rfl, hc, HG, HB2⟩ := hrel
          by_cases hlt : c < 2
          · obtain ⟨v1, w2, A, nn, cc, w3, hr1, hr2, hnn, hcc1, hcc2, hrd, hb3⟩ := cp_push (L := some a) (nl := nl) (cl := cl) (c : Int) HNL.out (HA.out.below HB2.out) (fun h => by cases h) (by have := HNL.out; omega)
            have HR1 := Lib.hid hr1
            have HR2 := Lib.hid hr2
            have HB3 := Lib.hid (HB2.out.trans (hb3.mono HB2.out.size))
            have CI := Lib.hid (HIH.out A nn cc (l ++ [(c : Int)]) w3 hnn (by rw [hnn, List.length_append, ← HNL.out]; simp; omega) hrd hcc1 hcc2)
            clear hr1 hr2 hnn hcc1 hcc2 hrd hb3
            go_wp2_with (first | (at_builtin; refine wpList_app rfl (.tmp 37) (.tmp 38) 22 22 rfl rfl _ _ rfl rfl HR1.out ?_) | (at_builtin; refine wpList_app rfl (.tmp 39) (.tmp 41) 22 22 rfl rfl _ _ rfl rfl HR2.out ?_))
            refine CI.out.mono ?_
            rintro e w4 ⟨v, rfl, ho, hB4⟩
            have HB4 := Lib.hid (HB3.out.trans (hB4.mono HB3.out.size))
            clear hB4
            cases hg : refS 2 (badA n k l0) f (l ++ [(c : Int)]) with
            | none =>
              rw [hg] at ho
              obtain rfl : v = .slice none 0 0 := ho
              have HG2 := Lib.hid hg
              clear hg
              go_wp2_with fail
              go_simp
              go_roundw
              case rel => exact ⟨c + 1, by go_num, by omega, by show _ = _; rw [HG.out, show 2 - c = 2 - (c + 1) + 1 by omega]; exact firstFrom_none HG2.out, HB4.out⟩
              case measure => simp [intOf]; omega
            | some q =>
              rw [hg] at ho
              have HO := Lib.hid ho
              obtain ⟨⟨a', n', c', rfl⟩, _⟩ := ho
              have HG2 := Lib.hid hg
              clear hg
              go_wp2_with fail
              go_ret
              exact ⟨_, rfl, by rw [HG.out, show 2 - c = 2 - (c + 1) + 1 by omega, firstFrom_some HG2.out]; exact HO.out, HB4.out⟩
          · have HE : Hid (refS 2 (badA n k l0) (f + 1) l = none) := by
              have := HG.out
              rw [show 2 - c = 0 by omega] at this; exact this
            go_wp2_with fail
            go_ret
            exact ⟨_, rfl, by rw [HE.out]; rfl, HB2.out⟩
end Go.Proofs.Ytplafgmceggcnaa
