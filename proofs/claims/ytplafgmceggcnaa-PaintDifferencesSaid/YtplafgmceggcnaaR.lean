/- What is proved: the reference of Sumless and Stepless (contracts of functions of paint, and what they need). No condition beyond those in each statement. -/
import Derived.Test.YtplafgmceggcnaaQ
namespace Go.Proofs.Ytplafgmceggcnaa
open Go.RowKit

/-- A copy with one more: two appends. -/
theorem cp_push {w : World} {L : Option Addr} {nl cl : Nat} {xs : List Int} (x : Int) (hn : nl = xs.length) (hx : Rd w L xs) (hL : L = none → cl = 0 ∧ xs = []) (hl : xs.length ≤ 1000) :
    ∃ v1 w1 A n c w2, (Builtin.append_ #[22, 22] 22 #[.slice (some ⟨w.heap.size, 0, none⟩) 0 0, .slice L nl cl]).run Try.prog (w.alloc (.cells #[] 3)) = .ok v1 w1 ∧
      (Builtin.append_ #[22, 22] 22 #[v1, .slice (some ⟨w1.heap.size, 0, none⟩) 1 1]).run Try.prog (w1.alloc (.cells #[.int .i64 x] 3)) = .ok (.slice (some A) n c) w2 ∧ n = (xs ++ [x]).length ∧ n ≤ c ∧ c ≤ 9223372036854775807 ∧ Rd w2 (some A) (xs ++ [x]) ∧ Below w.heap.size w w2 := by
  obtain ⟨i0, hi, hz0, hz1, hz2⟩ := info_parts info3'
  have h0 := ow_new w w.heap.size (Nat.le_refl _)
  have hb0 : Below w.heap.size w (w.alloc (.cells #[] 3)) := (Below.refl _ _).alloc (Nat.le_refl _) _
  have key : ∃ v1 w1, (Builtin.append_ #[22, 22] 22 #[.slice (some ⟨w.heap.size, 0, none⟩) 0 0, .slice L nl cl]).run Try.prog (w.alloc (.cells #[] 3)) = .ok v1 w1 ∧ Ow w1 w.heap.size v1 xs ∧ Below w.heap.size w w1 := by
    cases L with
    | none =>
      obtain ⟨rfl, rfl⟩ := hL rfl
      subst hn
      exact ⟨_, _, run_append_owned_none _ w.heap.size 22 22 3 i0 1 Try.underlying22 hi _ 0 [] h0, h0, hb0⟩
    | some a =>
      obtain ⟨v', w', hrun, r1, r2, r3⟩ := run_append_own (P := Try.prog) (w.alloc (.cells #[] 3)) w.heap.size 22 22 3 i0 (.int .i64 0) 1 8 Try.underlying22 hi hz0 hz1 hz2 rfl (by decide) _ 0 [] h0 a nl cl (xs.map (Value.int .i64)) (by simp [hn]) (by
        intro j u hj
        rw [List.getElem?_map] at hj
        obtain ⟨y, hy1, hy2⟩ := Option.map_eq_some_iff.1 hj
        obtain ⟨hj1, hj2⟩ := List.getElem?_eq_some_iff.1 hy1
        obtain ⟨b', o', e, hb', hc'⟩ := hx (fun e => by subst e; simp at hj1)
        cases e
        rw [addr_add, hb0.cell (p := ⟨b', o' + j, none⟩) hb', hc' j hj1, hj2, hy2]) (by simp [Value.oneCell']) (by simp [maxLen]; omega) (by omega) (by simp)
      refine ⟨v', w', hrun, ?_, hb0.grown r2 (by simp) (fun k hk => (World.ownsRow.lt h0 k hk).1)⟩
      unfold Ow
      rw [← hn]
      simpa using r1
  obtain ⟨v1, w1, hr1, ho1, hb1⟩ := key
  obtain ⟨A, n, c, w2, hr2, ho2, hb2⟩ := ow_push x ho1 hb1.size hl
  obtain ⟨A', c', e', g1, g2, _, g3⟩ := ho2.sl
  cases e'
  exact ⟨v1, w1, A, _, c, w2, hr1, hr2, rfl, g1, g2, g3, hb1.trans hb2⟩

/-- The reference's search. -/
def refS (below : Nat) (bad : List Int → Bool) : Nat → List Int → Option (List Int)
  | 0, l => if bad l then none else some l
  | f + 1, l => if bad l then none else firstFrom (fun c => refS below bad f (l ++ [(c : Int)])) below 0
theorem refS_bad {below : Nat} {bad : List Int → Bool} {f : Nat} {l : List Int} (h : bad l = true) : refS below bad f l = none := by cases f <;> simp [refS, h]
theorem refS_zero {below : Nat} {bad : List Int → Bool} {l : List Int} (h : bad l = false) : refS below bad 0 l = some l := by simp [refS, h]
theorem refS_succ {below : Nat} {bad : List Int → Bool} {f : Nat} {l : List Int} (h : bad l = false) : refS below bad (f + 1) l = firstFrom (fun c => refS below bad f (l ++ [(c : Int)])) below 0 := by simp [refS, h]

/-- The loop over the next color. -/
def NextI (w : World) (r : Nat) (G : Nat → Option (List Int)) (res : Option (List Int)) (v : Value) (wr : World) : Prop :=
  ∃ c : Nat, v = .int .i64 c ∧ c ≤ r ∧ Hid (res = firstFrom G (r - c) c) ∧ Hid (Below w.heap.size w wr)

set_option maxHeartbeats 4000000 in
theorem refsumless_calls (n r : Nat) (hn : n ≤ 100) (hr : r ≤ 100) (f : Nat) :
    ∀ (a : Addr) (nl cl : Nat) (l : List Int) (w : World), nl = l.length → nl + f = n → Rd w (some a) l → nl ≤ cl → cl ≤ 9223372036854775807 →
      Calls Try.prog 28 #[.int .i64 n, .int .i64 r, .slice (some a) nl cl] w fun e w' => ∃ v, e = .returned v ∧ OptSl w' v (refS r (fun l => (sumF l).isSome) f l) ∧ Below w.heap.size w w' := by
  induction f with
  | zero =>
    intro a nl cl l w hnl hf hA h1 h2
    have qN : ∀ (w : World) (a : Option Addr) (n c n' c' : Nat), (binOp .neq 22 (.slice a n c) (.slice none n' c')).run Try.prog w = .ok (.bool (!a.isNone)) w := fun w a n c n' c' => run_neq_slice_nil_any w _ _ a n c n' c' Try.underlying22
    have HNL := Lib.hid hnl
    have HA := Lib.hid hA
    have CS := Lib.hid (refsum_calls (some a) nl cl l w hnl (by omega) hA h1 h2)
    clear hnl hA
    have hne : ((nl : Int) == (n : Int)) = true := by
      rw [beq_iff_eq]; omega
    clear hf
    go_enter Try.func28, Try.ntmps28
    go_wp2_with fail
    refine CS.out.mono ?_
    rintro e w1 ⟨v, rfl, ho, hB⟩
    have HB := Lib.hid hB
    clear hB
    cases hs : sumF l with
    | some q =>
      rw [hs] at ho
      obtain ⟨⟨a', n', c', rfl⟩, _⟩ := ho
      have HS : Hid (refS r (fun l => (sumF l).isSome) 0 l = none) := refS_bad (by show (sumF l).isSome = true; rw [hs]; rfl)
      clear hs
      go_wp2_with fail
      go_ret
      exact ⟨_, rfl, by rw [HS.out]; rfl, HB.out⟩
    | none =>
      rw [hs] at ho
      obtain rfl : v = .slice none 0 0 := ho
      have HS : Hid (refS r (fun l => (sumF l).isSome) 0 l = some l) := refS_zero (by show (sumF l).isSome = false; rw [hs]; rfl)
      clear hs
      go_wp2_with fail
      go_ret
      exact ⟨_, rfl, by rw [HS.out]; exact ⟨⟨_, _, _, rfl⟩, some a, cl, by rw [HNL.out]; rfl, by have := HNL.out; omega, h2, fun h => (by cases h), HA.out.below HB.out⟩, HB.out⟩
  | succ f ih =>
    intro a nl cl l w hnl hf hA h1 h2
    have qN : ∀ (w : World) (a : Option Addr) (n c n' c' : Nat), (binOp .neq 22 (.slice a n c) (.slice none n' c')).run Try.prog w = .ok (.bool (!a.isNone)) w := fun w a n c n' c' => run_neq_slice_nil_any w _ _ a n c n' c' Try.underlying22
    have HNL := Lib.hid hnl
    have HA := Lib.hid hA
    have HIH := Lib.hid ih
    have CS := Lib.hid (refsum_calls (some a) nl cl l w hnl (by omega) hA h1 h2)
    clear hnl hA ih
    have hnf : nl < n := by omega
    have hne : ((nl : Int) == (n : Int)) = false := by
      rw [beq_eq_false_iff_ne]; omega
    go_enter Try.func28, Try.ntmps28
    go_wp2_with fail
    refine CS.out.mono ?_
    rintro e w1 ⟨v, rfl, ho, hB⟩
    have HB := Lib.hid hB
    clear hB
    cases hs : sumF l with
    | some q =>
      rw [hs] at ho
      obtain ⟨⟨a', n', c', rfl⟩, _⟩ := ho
      have HS : Hid (refS r (fun l => (sumF l).isSome) (f + 1) l = none) := refS_bad (by show (sumF l).isSome = true; rw [hs]; rfl)
      clear hs
      go_wp2_with fail
      go_ret
      exact ⟨_, rfl, by rw [HS.out]; rfl, HB.out⟩
    | none =>
      rw [hs] at ho
      obtain rfl : v = .slice none 0 0 := ho
      have HS : Hid (refS r (fun l => (sumF l).isSome) (f + 1) l = firstFrom (fun c => refS r (fun l => (sumF l).isSome) f (l ++ [(c : Int)])) r 0) := refS_succ (by show (sumF l).isSome = false; rw [hs]; rfl)
      clear hs
      go_wp2_with fail
      clear hne
      go_loopw [7] (NextI w r (fun c => refS r (fun l => (sumF l).isSome) f (l ++ [(c : Int)])) (refS r (fun l => (sumF l).isSome) (f + 1) l)) (fun v _ => r - (intOf v).toNat)
      case atStart => exact ⟨0, rfl, Nat.zero_le _, HS.out, HB.out⟩
      case round =>
        obtain ⟨c, rfl, hc, HG, HB2⟩ := hrel
        by_cases hlt : c < r
        · obtain ⟨v1, w2, A, nn, cc, w3, hr1, hr2, hnn, hcc1, hcc2, hrd, hb3⟩ := cp_push (L := some a) (nl := nl) (cl := cl) (c : Int) HNL.out (HA.out.below HB2.out) (fun h => by cases h) (by have := HNL.out; omega)
          have HR1 := Lib.hid hr1
          have HR2 := Lib.hid hr2
          have HB3 := Lib.hid (HB2.out.trans (hb3.mono HB2.out.size))
          have CI := Lib.hid (HIH.out A nn cc (l ++ [(c : Int)]) w3 hnn (by rw [hnn, List.length_append, ← HNL.out]; simp; omega) hrd hcc1 hcc2)
          clear hr1 hr2 hnn hcc1 hcc2 hrd hb3
          go_wp2_with (first | (at_builtin; refine wpList_app rfl (.tmp 24) (.tmp 25) 22 22 rfl rfl _ _ rfl rfl HR1.out ?_) | (at_builtin; refine wpList_app rfl (.tmp 26) (.tmp 28) 22 22 rfl rfl _ _ rfl rfl HR2.out ?_))
          refine CI.out.mono ?_
          rintro e w4 ⟨v, rfl, ho, hB4⟩
          have HB4 := Lib.hid (HB3.out.trans (hB4.mono HB3.out.size))
          clear hB4
          cases hg : refS r (fun l => (sumF l).isSome) f (l ++ [(c : Int)]) with
          | none =>
            rw [hg] at ho
            obtain rfl : v = .slice none 0 0 := ho
            have HG2 := Lib.hid hg
            clear hg
            go_wp2_with fail
            go_simp
            go_roundw
            case rel => exact ⟨c + 1, by go_num, by omega, by show _ = _; rw [HG.out, show r - c = r - (c + 1) + 1 by omega]; exact firstFrom_none HG2.out, HB4.out⟩
            case measure => simp [intOf]; omega
          | some q =>
            rw [hg] at ho
            have HO := Lib.hid ho
            obtain ⟨⟨a', n', c', rfl⟩, _⟩ := ho
            have HG2 := Lib.hid hg
            clear hg
            go_wp2_with fail
            go_ret
            exact ⟨_, rfl, by rw [HG.out, show r - c = r - (c + 1) + 1 by omega, firstFrom_some HG2.out]; exact HO.out, HB4.out⟩
        · have HE : Hid (refS r (fun l => (sumF l).isSome) (f + 1) l = none) := by
            have := HG.out
            rw [show r - c = 0 by omega] at this; exact this
          go_wp2_with fail
          go_ret
          exact ⟨_, rfl, by rw [HE.out]; rfl, HB2.out⟩
set_option maxHeartbeats 4000000 in
theorem refstepless_calls (n r k : Nat) (hk : k = 3 ∨ k = 4) (hn : n ≤ 100) (hr : r ≤ 100) (f : Nat) :
    ∀ (a : Addr) (nl cl : Nat) (l : List Int) (w : World), nl = l.length → nl + f = n → Rd w (some a) l → nl ≤ cl → cl ≤ 9223372036854775807 →
      Calls Try.prog 32 #[.int .i64 n, .int .i64 r, .int .i64 k, .slice (some a) nl cl] w fun e w' => ∃ v, e = .returned v ∧ OptSl w' v (refS r (fun l => (progF l k).isSome) f l) ∧ Below w.heap.size w w' := by
  induction f with
  | zero =>
    intro a nl cl l w hnl hf hA h1 h2
    have qN : ∀ (w : World) (a : Option Addr) (n c n' c' : Nat), (binOp .neq 22 (.slice a n c) (.slice none n' c')).run Try.prog w = .ok (.bool (!a.isNone)) w := fun w a n c n' c' => run_neq_slice_nil_any w _ _ a n c n' c' Try.underlying22
    have HNL := Lib.hid hnl
    have HA := Lib.hid hA
    have CS := Lib.hid (refprog_calls (some a) nl cl l k hk w hnl (by omega) hA h1 h2)
    clear hnl hA
    have hne : ((nl : Int) == (n : Int)) = true := by
      rw [beq_iff_eq]; omega
    clear hf
    go_enter Try.func32, Try.ntmps32
    go_wp2_with fail
    refine CS.out.mono ?_
    rintro e w1 ⟨v, rfl, ho, hB⟩
    have HB := Lib.hid hB
    clear hB
    cases hs : progF l k with
    | some q =>
      rw [hs] at ho
      obtain ⟨⟨a', n', c', rfl⟩, _⟩ := ho
      have HS : Hid (refS r (fun l => (progF l k).isSome) 0 l = none) := refS_bad (by show (progF l k).isSome = true; rw [hs]; rfl)
      clear hs
      go_wp2_with fail
      go_ret
      exact ⟨_, rfl, by rw [HS.out]; rfl, HB.out⟩
    | none =>
      rw [hs] at ho
      obtain rfl : v = .slice none 0 0 := ho
      have HS : Hid (refS r (fun l => (progF l k).isSome) 0 l = some l) := refS_zero (by show (progF l k).isSome = false; rw [hs]; rfl)
      clear hs
      go_wp2_with fail
      go_ret
      exact ⟨_, rfl, by rw [HS.out]; exact ⟨⟨_, _, _, rfl⟩, some a, cl, by rw [HNL.out]; rfl, by have := HNL.out; omega, h2, fun h => (by cases h), HA.out.below HB.out⟩, HB.out⟩
  | succ f ih =>
    intro a nl cl l w hnl hf hA h1 h2
    have qN : ∀ (w : World) (a : Option Addr) (n c n' c' : Nat), (binOp .neq 22 (.slice a n c) (.slice none n' c')).run Try.prog w = .ok (.bool (!a.isNone)) w := fun w a n c n' c' => run_neq_slice_nil_any w _ _ a n c n' c' Try.underlying22
    have HNL := Lib.hid hnl
    have HA := Lib.hid hA
    have HIH := Lib.hid ih
    have CS := Lib.hid (refprog_calls (some a) nl cl l k hk w hnl (by omega) hA h1 h2)
    clear hnl hA ih
    have hnf : nl < n := by omega
    have hne : ((nl : Int) == (n : Int)) = false := by
      rw [beq_eq_false_iff_ne]; omega
    go_enter Try.func32, Try.ntmps32
    go_wp2_with fail
    refine CS.out.mono ?_
    rintro e w1 ⟨v, rfl, ho, hB⟩
    have HB := Lib.hid hB
    clear hB
    cases hs : progF l k with
    | some q =>
      rw [hs] at ho
      obtain ⟨⟨a', n', c', rfl⟩, _⟩ := ho
      have HS : Hid (refS r (fun l => (progF l k).isSome) (f + 1) l = none) := refS_bad (by show (progF l k).isSome = true; rw [hs]; rfl)
      clear hs
      go_wp2_with fail
      go_ret
      exact ⟨_, rfl, by rw [HS.out]; rfl, HB.out⟩
    | none =>
      rw [hs] at ho
      obtain rfl : v = .slice none 0 0 := ho
      have HS : Hid (refS r (fun l => (progF l k).isSome) (f + 1) l = firstFrom (fun c => refS r (fun l => (progF l k).isSome) f (l ++ [(c : Int)])) r 0) := refS_succ (by show (progF l k).isSome = false; rw [hs]; rfl)
      clear hs
      go_wp2_with fail
      clear hne
      go_loopw [9] (NextI w r (fun c => refS r (fun l => (progF l k).isSome) f (l ++ [(c : Int)])) (refS r (fun l => (progF l k).isSome) (f + 1) l)) (fun v _ => r - (intOf v).toNat)
      case atStart => exact ⟨0, rfl, Nat.zero_le _, HS.out, HB.out⟩
      case round =>
        obtain ⟨c, rfl, hc, HG, HB2⟩ := hrel
        by_cases hlt : c < r
        · obtain ⟨v1, w2, A, nn, cc, w3, hr1, hr2, hnn, hcc1, hcc2, hrd, hb3⟩ := cp_push (L := some a) (nl := nl) (cl := cl) (c : Int) HNL.out (HA.out.below HB2.out) (fun h => by cases h) (by have := HNL.out; omega)
          have HR1 := Lib.hid hr1
          have HR2 := Lib.hid hr2
          have HB3 := Lib.hid (HB2.out.trans (hb3.mono HB2.out.size))
          have CI := Lib.hid (HIH.out A nn cc (l ++ [(c : Int)]) w3 hnn (by rw [hnn, List.length_append, ← HNL.out]; simp; omega) hrd hcc1 hcc2)
          clear hr1 hr2 hnn hcc1 hcc2 hrd hb3
          go_wp2_with (first | (at_builtin; refine wpList_app rfl (.tmp 28) (.tmp 29) 22 22 rfl rfl _ _ rfl rfl HR1.out ?_) | (at_builtin; refine wpList_app rfl (.tmp 30) (.tmp 32) 22 22 rfl rfl _ _ rfl rfl HR2.out ?_))
          refine CI.out.mono ?_
          rintro e w4 ⟨v, rfl, ho, hB4⟩
          have HB4 := Lib.hid (HB3.out.trans (hB4.mono HB3.out.size))
          clear hB4
          cases hg : refS r (fun l => (progF l k).isSome) f (l ++ [(c : Int)]) with
          | none =>
            rw [hg] at ho
            obtain rfl : v = .slice none 0 0 := ho
            have HG2 := Lib.hid hg
            clear hg
            go_wp2_with fail
            go_simp
            go_roundw
            case rel => exact ⟨c + 1, by go_num, by omega, by show _ = _; rw [HG.out, show r - c = r - (c + 1) + 1 by omega]; exact firstFrom_none HG2.out, HB4.out⟩
            case measure => simp [intOf]; omega
          | some q =>
            rw [hg] at ho
            have HO := Lib.hid ho
            obtain ⟨⟨a', n', c', rfl⟩, _⟩ := ho
            have HG2 := Lib.hid hg
            clear hg
            go_wp2_with fail
            go_ret
            exact ⟨_, rfl, by rw [HG.out, show r - c = r - (c + 1) + 1 by omega, firstFrom_some HG2.out]; exact HO.out, HB4.out⟩
        · have HE : Hid (refS r (fun l => (progF l k).isSome) (f + 1) l = none) := by
            have := HG.out
            rw [show r - c = 0 by omega] at this; exact this
          go_wp2_with fail
          go_ret
          exact ⟨_, rfl, by rw [HE.out]; rfl, HB2.out⟩
end Go.Proofs.Ytplafgmceggcnaa
