/- What is proved: colored, found, Sum (contracts of functions of paint, and what they need). No condition beyond those in each statement. -/
import Derived.Test.YtplafgmceggcnaaC
namespace Go.Proofs.Ytplafgmceggcnaa
open Go.RowKit

def inRange (below : Int) (cs : List Int) : Bool := !(cs.any fun c => decide (c < 0) || decide (c ≥ below))
theorem enters53 : ∀ args w, (callFunc 53 args).run Try.prog w = .ok (.enter 53 args) w := fun _ _ => rfl

set_option maxHeartbeats 1000000 in
theorem colored_calls (A : Option Addr) (n c : Nat) (cs : List Int) (many below : Int) (w : World) (hn : n = cs.length) (hA : Rd w A cs) (hl : n ≤ c) (hc : c ≤ 9223372036854775807) :
    Calls Try.prog 38 #[.slice A n c, .int .i64 many, .int .i64 below] w fun e w' => e = .returned (.bool (decide ((n : Int) = many) && inRange below cs)) ∧ Below w.heap.size w w' := by
  have HN := Lib.hid hn
  have HA := Lib.hid hA
  clear hn hA
  have hnn : (n : Int) ≤ 9223372036854775807 := by omega
  cases h : ((n : Int) == many)
  · have HD : Hid (decide ((n : Int) = many) = false) := by simpa [Hid] using h
    go_enter Try.func38, Try.ntmps38
    go_wp2_with fail
    go_ret
    exact ⟨ret_bool (by rw [HD.out]; rfl), (Below.refl _ _).alloc (Nat.le_refl _) _⟩
  · have HD : Hid (decide ((n : Int) = many) = true) := by simpa [Hid] using h
    go_enter Try.func38, Try.ntmps38
    go_wp2_with fail
    refine (containsFunc_calls' 53 _ enters53 (fun c => decide (c < 0) || decide (c ≥ below)) _ _ _ cs _ HN.out (HA.out.below ((Below.refl _ _).alloc (Nat.le_refl _) _)) hl hc ?_).mono ?_
    · intro i W hi hbw
      exact colored1_calls _ below w.heap.size W ((hbw.cell (p := ⟨w.heap.size, 0, none⟩) (by simp)).trans (cell_new _ _ _ _ rfl))
    rintro e W1 ⟨rfl, hB1⟩
    have HB1 := Lib.hid hB1
    clear hB1
    go_wp2_with fail
    go_ret
    exact ⟨ret_bool (by rw [HD.out]; rfl), ((Below.refl w.heap.size w).alloc (Nat.le_refl _) _).trans (HB1.out.mono (by simp))⟩

/-- An optional list as a result with its error. -/
def foundR (r : Option (List Int)) : Int := match r with | none => 5 | some _ => 0

set_option maxHeartbeats 1000000 in
theorem found_calls (v : Value) (r : Option (List Int)) (w : World) (h : OptSl w v r) :
    Calls Try.prog 45 #[v] w fun e w' => e = .returned (.tuple #[v, .int .i64 (foundR r)]) ∧ w = w' := by
  have qT : ∀ (w : World) (a : Option Addr) (n c n' c' : Nat), (binOp .eql 22 (.slice a n c) (.slice none n' c')).run Try.prog w = .ok (.bool a.isNone) w := fun w a n c n' c' => Lib.run_eql_slice_nil w _ _ a n c n' c' Try.underlying22
  cases r with
  | none =>
    obtain rfl : v = .slice none 0 0 := h
    go_enter Try.func45, Try.ntmps45
    go_wp2_with fail
    go_ret2
    exact ⟨rfl, rfl⟩
  | some r =>
    obtain ⟨⟨a, n, c, rfl⟩, _⟩ := h
    go_enter Try.func45, Try.ntmps45
    go_wp2_with fail
    go_ret2
    exact ⟨rfl, rfl⟩

def SumR (cs : List Int) : Option (List Int) × Int :=
  if decide (cs.length < 1) || decide (cs.length > 14) || !inRange 3 cs then (none, 2) else (sumF cs, foundR (sumF cs))

/-- A list, or nothing, with an error. -/
def OptR (w0 : World) (r : Option (List Int) × Int) (e : Ending) (w' : World) : Prop := ∃ v, e = .returned (.tuple #[v, .int .i64 r.2]) ∧ OptSl w' v r.1 ∧ Below w0.heap.size w0 w'

theorem OptR.mk {w0 w' : World} {r : Option (List Int) × Int} {v : Value} {q : Option (List Int)} {c : Int} (h : r = (q, c)) (ho : OptSl w' v q) (hb : Below w0.heap.size w0 w') : OptR w0 r (.returned (.tuple #[v, .int .i64 c])) w' := by
  subst h
  exact ⟨v, rfl, ho, hb⟩

set_option maxHeartbeats 1000000 in
theorem Sum_calls (A : Option Addr) (n c : Nat) (cs : List Int) (w : World) (hn : n = cs.length) (hA : Rd w A cs) (hl : n ≤ c) (hc : c ≤ 9223372036854775807) :
    Calls Try.prog 25 #[.slice A n c] w (OptR w (SumR cs)) := by
  have HN := Lib.hid hn
  have HA := Lib.hid hA
  clear hn hA
  by_cases h1 : n < 1
  · have HR : Hid (SumR cs = (none, 2)) := by show SumR cs = _; unfold SumR; rw [← HN.out]; simp [h1]
    go_enter Try.func25, Try.ntmps25
    go_wp2_with fail
    go_ret2
    exact OptR.mk HR.out rfl (Below.refl _ _)
  · by_cases h2 : 14 < n
    · have HR : Hid (SumR cs = (none, 2)) := by show SumR cs = _; unfold SumR; rw [← HN.out]; simp [h2]
      go_enter Try.func25, Try.ntmps25
      go_wp2_with fail
      go_ret2
      exact OptR.mk HR.out rfl (Below.refl _ _)
    · cases h3 : inRange 3 cs
      · have HR : Hid (SumR cs = (none, 2)) := by show SumR cs = _; unfold SumR; rw [h3]; simp
        have HQ := Lib.hid h3
        clear h3
        go_enter Try.func25, Try.ntmps25
        go_wp2_with fail
        refine (colored_calls _ n c cs n 3 _ HN.out HA.out hl hc).mono ?_
        rw [HQ.out]
        rintro e w1 ⟨rfl, hB⟩
        have HB := Lib.hid hB
        clear hB
        go_wp2_with fail
        go_ret2
        exact OptR.mk HR.out rfl HB.out
      · have HR : Hid (SumR cs = (sumF cs, foundR (sumF cs))) := by show SumR cs = _; unfold SumR; rw [h3, ← HN.out]; simp; omega
        have HQ := Lib.hid h3
        clear h3
        go_enter Try.func25, Try.ntmps25
        go_wp2_with fail
        refine (colored_calls _ n c cs n 3 _ HN.out HA.out hl hc).mono ?_
        rw [HQ.out]
        rintro e w1 ⟨rfl, hB⟩
        have HB := Lib.hid hB
        clear hB
        go_wp2_with fail
        refine (sum_calls _ n c cs _ HN.out (by omega) (HA.out.below HB.out) hl hc).mono ?_
        rintro e w2 ⟨v, rfl, ho, hB2⟩
        have HO := Lib.hid ho
        have HB2 := Lib.hid (HB.out.trans (hB2.mono HB.out.size))
        clear ho hB2
        go_wp2_with fail
        refine (found_calls v (sumF cs) _ HO.out).mono ?_
        rintro e w3 ⟨rfl, rfl⟩
        go_wp2_with fail
        go_ret2
        exact OptR.mk HR.out HO.out HB2.out
end Go.Proofs.Ytplafgmceggcnaa
