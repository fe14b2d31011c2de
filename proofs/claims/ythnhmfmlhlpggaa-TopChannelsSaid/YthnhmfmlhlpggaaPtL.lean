/- What is proved: Avoid, Sumless, Stepless (contracts of functions of paint, and what they need). No condition beyond those in each statement. -/
import Derived.Test.YthnhmfmlhlpggaaPtH
namespace Go.Proofs.Ythnhmfmlhlpggaa.Pt
open Go.RowKit
set_option maxRecDepth 100000

/-- A list, or nil with an error. -/
def ResP (w0 : World) (r : Except Int (List Int)) (e : Ending) (w' : World) : Prop :=
  match r with
  | .error q => e = .returned (.tuple #[.slice none 0 0, .int .i64 q]) ∧ Below w0.heap.size w0 w'
  | .ok xs => ∃ A n c, e = .returned (.tuple #[.slice A n c, .int .i64 0]) ∧ n = xs.length ∧ n ≤ c ∧ c ≤ 9223372036854775807 ∧ Rd w' A xs ∧ Below w0.heap.size w0 w'
def orNone (r : Option (List Int)) : Except Int (List Int) := match r with | none => .error 5 | some xs => .ok xs
theorem FirstPost.res {w0 w : World} {r : Option (List Int)} {e : Ending} {w' : World} (h : FirstPost w r e w') (hb : Below w0.heap.size w0 w) : ResP w0 (orNone r) e w' := by
  cases r with
  | none => exact ⟨h.1, hb.trans (h.2.mono hb.size)⟩
  | some xs =>
    obtain ⟨A, n, c, h1, h2, h3, h4, h5, h6⟩ := h
    exact ⟨A, n, c, h1, h2, h3, h4, h5, hb.trans (h6.mono hb.size)⟩
theorem ResP.tuple {w0 w' : World} {r : Except Int (List Int)} {e : Ending} (h : ResP w0 r e w') : ∃ v q, e = .returned (.tuple #[v, .int .i64 q]) := by
  cases r with
  | error q => exact ⟨_, _, h.1⟩
  | ok xs => obtain ⟨A, n, c, h1, _⟩ := h; exact ⟨_, _, h1⟩

theorem cell_lt {w : World} {b i : Nat} {v : Value} (h : w.cell? ⟨b, i, none⟩ = some v) : b < w.heap.size := by
  unfold World.cell? at h
  split at h
  · rename_i h1; exact (Array.getElem?_eq_some_iff.1 h1).1
  · exact absurd h (by simp)

def sumlessL (n r : Nat) : List (List Int) := leaves r (fun cs => (sumF cs).isNone) n []
def SumlessR (n r : Int) : Except Int (List Int) := if (1 ≤ n ∧ n ≤ 14) ∧ (1 ≤ r ∧ r ≤ 3) then orNone (sumlessL n.toNat r.toNat).head? else .error 1
theorem SumlessR_err {n r : Int} (h : ¬((1 ≤ n ∧ n ≤ 14) ∧ (1 ≤ r ∧ r ≤ 3))) : SumlessR n r = .error 1 := if_neg h
theorem SumlessR_ok {n r : Nat} (h : (1 ≤ n ∧ n ≤ 14) ∧ (1 ≤ r ∧ r ≤ 3)) : SumlessR n r = orNone (sumlessL n r).head? := if_pos (by omega)

theorem sumless_calls (n r : Int) (w : World) : Calls Try.prog 32 #[.int .i64 n, .int .i64 r] w (ResP w (SumlessR n r)) := by
  by_cases hr : (1 ≤ n ∧ n ≤ 14) ∧ (1 ≤ r ∧ r ≤ 3)
  · obtain ⟨m, rfl⟩ : ∃ m : Nat, n = m := ⟨n.toNat, by omega⟩
    obtain ⟨s, rfl⟩ : ∃ m : Nat, r = m := ⟨r.toNat, by omega⟩
    have hr' : (1 ≤ m ∧ m ≤ 14) ∧ (1 ≤ s ∧ s ≤ 3) := by omega
    obtain ⟨⟨q1, q2⟩, q3, q4⟩ := hr
    have C := Lib.hid ((first_calls 72 #[] (fun _ _ => rfl) (fun cs => (sumF cs).isNone) w m s (by omega) (by omega) (fun xs A n c W h1 h2 h3 h4 h5 h6 _ _ => sumless1_calls A n c xs W h1 (by omega) h4 h5 h6)).mono (fun e w2 h => h.res (Below.refl _ w)))
    have HR := Lib.hid (SumlessR_ok hr')
    clear hr'
    go_enter Try.func32, Try.ntmps32
    go_wp2_with fail
    refine C.out.mono ?_
    intro e w2 h
    obtain ⟨v, q, rfl⟩ := h.tuple
    have H := Lib.hid h
    clear h
    go_wp2_with fail
    go_ret2
    rw [HR.out]
    exact H.out
  · have HE := Lib.hid (SumlessR_err hr)
    have H2 : Hid ((1 ≤ n ∧ n ≤ 14) ∧ (1 ≤ r ∧ r ≤ 3) → False) := hr
    clear hr
    go_enter Try.func32, Try.ntmps32
    go_wp2_with fail
    all_goals first
      | (exfalso; exact H2.out (by omega))
      | (go_ret2; rw [HE.out]; exact ⟨rfl, Below.refl _ _⟩)

end Go.Proofs.Ythnhmfmlhlpggaa.Pt
