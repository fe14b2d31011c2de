/- What is proved: colored, found, Sum (contracts of functions of paint, and what they need). No condition beyond those in each statement. -/
import Derived.Test.YthnhmfmlhlpggaaPtC
namespace Go.Proofs.Ythnhmfmlhlpggaa.Pt
open Go.RowKit
set_option maxRecDepth 100000

def inRange (below : Int) (cs : List Int) : Bool := !(cs.any fun c => decide (c < 0) || decide (c ≥ below))
theorem enters53 : ∀ args w, (callFunc 64 args).run Try.prog w = .ok (.enter 64 args) w := fun _ _ => rfl

set_option maxHeartbeats 1000000 in
theorem colored_calls (A : Option Addr) (n c : Nat) (cs : List Int) (many below : Int) (w : World) (hn : n = cs.length) (hA : Rd w A cs) (hl : n ≤ c) (hc : c ≤ 9223372036854775807) :
    Calls Try.prog 25 #[.slice A n c, .int .i64 many, .int .i64 below] w fun e w' => e = .returned (.bool (decide ((n : Int) = many) && inRange below cs)) ∧ Below w.heap.size w w' := by
  have HN := Lib.hid hn
  have HA := Lib.hid hA
  clear hn hA
  have hnn : (n : Int) ≤ 9223372036854775807 := by omega
  cases h : ((n : Int) == many)
  · have HD : Hid (decide ((n : Int) = many) = false) := by simpa [Hid] using h
    go_enter Try.func25, Try.ntmps25
    go_wp2_with fail
    go_ret
    exact ⟨ret_bool (by rw [HD.out]; rfl), (Below.refl _ _).alloc (Nat.le_refl _) _⟩
  · have HD : Hid (decide ((n : Int) = many) = true) := by simpa [Hid] using h
    go_enter Try.func25, Try.ntmps25
    go_wp2_with fail
    refine (containsFunc_calls' 64 _ enters53 (fun c => decide (c < 0) || decide (c ≥ below)) _ _ _ cs _ HN.out (HA.out.below ((Below.refl _ _).alloc (Nat.le_refl _) _)) hl hc ?_).mono ?_
    · intro i W hi hbw
      exact colored1_calls _ below w.heap.size W ((hbw.cell (p := ⟨w.heap.size, 0, none⟩) (by simp)).trans (cell_new _ _ _ _ rfl))
    rintro e W1 ⟨rfl, hB1⟩
    have HB1 := Lib.hid hB1
    clear hB1
    go_wp2_with fail
    go_ret
    exact ⟨ret_bool (by rw [HD.out]; rfl), ((Below.refl w.heap.size w).alloc (Nat.le_refl _) _).trans (HB1.out.mono (by simp))⟩

/-- An optional list as a result with its error. -/
def foundR (r : Option (List Int)) : Int := match r with | none => 5 | some _ => 0

/-- A list, or nothing, with an error. -/
def OptR (w0 : World) (r : Option (List Int) × Int) (e : Ending) (w' : World) : Prop := ∃ v, e = .returned (.tuple #[v, .int .i64 r.2]) ∧ OptSl w' v r.1 ∧ Below w0.heap.size w0 w'

theorem OptR.mk {w0 w' : World} {r : Option (List Int) × Int} {v : Value} {q : Option (List Int)} {c : Int} (h : r = (q, c)) (ho : OptSl w' v q) (hb : Below w0.heap.size w0 w') : OptR w0 r (.returned (.tuple #[v, .int .i64 c])) w' := by
  subst h
  exact ⟨v, rfl, ho, hb⟩

end Go.Proofs.Ythnhmfmlhlpggaa.Pt
