/- What is proved: plain facts on trying all orders. No condition beyond those in each statement. -/
import Derived.Test.YtlidnhmagleehaaPd
namespace Go.Proofs.Ytlidnhmagleehaa

theorem idn_snoc (n : Nat) : idn (n + 1) = idn n ++ [(n : Int)] := by simp [idn, List.range_succ]
def inL (pre : List Int) (v : Int) : Bool := pre.any fun u => u == v
def remF (k : Nat) (pre : List Int) : List Int := (idn k).filter fun v => !inL pre v
theorem rem_nil (k : Nat) : remF k [] = idn k := by
  unfold remF inL
  exact List.filter_eq_self.2 (by simp)
theorem rem_snoc (k : Nat) (pre : List Int) (v : Int) : remF k (pre ++ [v]) = (remF k pre).erase v := by
  unfold remF
  rw [List.Nodup.erase_eq_filter (List.Pairwise.filter _ (idn_nodup k)), List.filter_filter]
  apply List.filter_congr
  intro u _
  unfold inL
  rw [List.any_append]
  simp only [List.any_cons, List.any_nil, Bool.or_false, Bool.not_or]
  rw [Bool.and_comm]
  congr 1
  rw [Bool.eq_iff_iff]
  simp
  omega
/-- All orders that begin with some numbers. -/
def extF (k f : Nat) (pre : List Int) : List (List Int) := (lexF f (remF k pre)).map (pre ++ ·)
theorem ext_zero (k : Nat) (pre : List Int) : extF k 0 pre = [pre] := by simp [extF, lexF]
theorem ext_all (k : Nat) : extF k k [] = lexF k (idn k) := by
  unfold extF
  rw [rem_nil]
  simp
def loopF (k f : Nat) (pre : List Int) (v : Nat) : List (List Int) := ((idn v).filter fun v => !inL pre v).flatMap fun v => extF k f (pre ++ [v])
theorem loop_zero (k f : Nat) (pre : List Int) : loopF k f pre 0 = [] := rfl
theorem loop_yes {k f : Nat} {pre : List Int} {v : Nat} (h : inL pre v = false) : loopF k f pre (v + 1) = loopF k f pre v ++ extF k f (pre ++ [(v : Int)]) := by
  unfold loopF
  rw [idn_snoc, List.filter_append, List.flatMap_append]
  simp [h]
theorem loop_no {k f : Nat} {pre : List Int} {v : Nat} (h : inL pre v = true) : loopF k f pre (v + 1) = loopF k f pre v := by
  unfold loopF
  rw [idn_snoc, List.filter_append, List.flatMap_append]
  simp [h]
theorem loop_end (k f : Nat) (pre : List Int) : loopF k f pre k = extF k (f + 1) pre := by
  unfold loopF extF
  show (remF k pre).flatMap _ = ((remF k pre).flatMap fun v => (lexF f ((remF k pre).erase v)).map (v :: ·)).map (pre ++ ·)
  rw [List.map_flatMap]
  congr 1
  funext v
  rw [rem_snoc, List.map_map]
  congr 1
  funext o
  simp
abbrev St3 : Type := Option (Int × List Int) × Option (Int × List Int) × Option (Int × List Int)
def pick3 (es : List (Int × Int)) (st : St3) (l : List (List Int)) : St3 := (pick (costB es) st.1 l, pick (costC es) st.2.1 l, pick (costS es) st.2.2 l)
theorem pick3_append (es : List (Int × Int)) (st : St3) (l m : List (List Int)) : pick3 es st (l ++ m) = pick3 es (pick3 es st l) m := by
  unfold pick3
  rw [pick_append, pick_append, pick_append]
theorem pick3_nil (es : List (Int × Int)) (st : St3) : pick3 es st [] = st := by
  obtain ⟨a, b, c⟩ := st
  unfold pick3
  cases a <;> cases b <;> cases c <;> rfl
theorem pick3_all (es : List (Int × Int)) (k : Nat) : pick3 es (none, none, none) (lexF k (idn k)) = (leastF (costB es) k, leastF (costC es) k, leastF (costS es) k) := rfl
def up1 (c : Int) (o : List Int) : Option (Int × List Int) → Option (Int × List Int)
  | none => some (c, o)
  | some (b, p) => if c < b then some (c, o) else some (b, p)
theorem pick_one (cost : List Int → Int) (a : Option (Int × List Int)) (o : List Int) : pick cost a [o] = up1 (cost o) o a := by
  cases a with
  | none => rfl
  | some bp =>
    obtain ⟨b, p⟩ := bp
    show pick cost (if cost o < b then some (cost o, o) else some (b, p)) [] = if cost o < b then some (cost o, o) else some (b, p)
    split <;> rfl
end Go.Proofs.Ytlidnhmagleehaa
