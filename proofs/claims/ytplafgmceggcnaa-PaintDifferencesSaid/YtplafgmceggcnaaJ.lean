/- What is proved: the rule of without (contracts of functions of paint, and what they need). No condition beyond those in each statement. -/
import Derived.Test.YtplafgmceggcnaaI
import Derived.BigRegion
namespace Go.Proofs.Ytplafgmceggcnaa
open Go.RowKit

theorem getD_lt {α : Type} {l : List α} {i : Nat} (d : α) (_u : Unit) (h : i < l.length) : l.getD i d = l[i] := by
  rw [List.getD_eq_getElem?_getD, List.getElem?_eq_getElem h]; rfl

/-- The pairs of n vertices, in order. -/
def endsOf (n : Nat) : List (Nat × Nat) := (List.range n).flatMap fun a => (List.range' (a + 1) (n - (a + 1))).map fun b => (a, b)
def sizeOfColor (k l c : Int) : Int := if c == 1 then l else k
def goodW (n : Nat) (k l : Int) (xs : List Int) : Bool :=
  !joinedF n (fitB n xs (xs.getD (xs.length - 1) 0)) (sizeOfColor k l (xs.getD (xs.length - 1) 0) - 2).toNat
    [((endsOf n).getD (xs.length - 1) (0, 0)).1, ((endsOf n).getD (xs.length - 1) (0, 0)).2] 0

set_option maxHeartbeats 2000000 in
theorem without2_calls (n : Nat) (hn : n ≤ 8) (k l : Int) (hk : 2 ≤ k ∧ k ≤ 4) (hl : 2 ≤ l ∧ l ≤ 4) (be ce pe pk pl pj pn : Nat) (j : Nat) (hj : j < (endsOf n).length) (hends : ∀ e ∈ endsOf n, e.1 < n ∧ e.2 < n)
    (A : Option Addr) (c : Nat) (xs : List Int) (w : World) (hx : j + 1 = xs.length) (hA : Rd w A xs) (hc : j + 1 ≤ c) (hc2 : c ≤ 9223372036854775807) (_hce : (endsOf n).length ≤ ce) (hj1 : j ≤ 100)
    (c1 : w.cell? ⟨pe, 0, none⟩ = some (.slice (some ⟨be, 0, none⟩) (endsOf n).length ce)) (c2 : w.cell? ⟨be, j * 2, none⟩ = some (.int .i64 ((endsOf n)[j].1 : Nat))) (c3 : w.cell? ⟨be, j * 2 + 1, none⟩ = some (.int .i64 ((endsOf n)[j].2 : Nat)))
    (c4 : w.cell? ⟨pk, 0, none⟩ = some (.int .i64 k)) (c5 : w.cell? ⟨pl, 0, none⟩ = some (.int .i64 l))
    (c6 : w.cell? ⟨pj, 0, none⟩ = some (.func (.func 58) #[] #[.pointer (some ⟨pn, 0, none⟩), .pointer (some ⟨pj, 0, none⟩)])) (c7 : w.cell? ⟨pn, 0, none⟩ = some (.int .i64 n)) :
    Calls Try.prog 60 #[.slice A (j + 1) c, .pointer (some ⟨pe, 0, none⟩), .pointer (some ⟨pk, 0, none⟩), .pointer (some ⟨pl, 0, none⟩), .pointer (some ⟨pj, 0, none⟩)] w fun e w' =>
      e = .returned (.bool (goodW n k l xs)) ∧ Below w.heap.size w w' := by
  obtain ⟨b, o, rfl, hb, hcx⟩ := hA.at j (by omega)
  obtain ⟨ea, hea⟩ : ∃ q, q = (endsOf n)[j].1 := ⟨_, rfl⟩
  obtain ⟨eb, heb⟩ : ∃ q, q = (endsOf n)[j].2 := ⟨_, rfl⟩
  obtain ⟨ne, hne⟩ : ∃ q, q = (endsOf n).length := ⟨_, rfl⟩
  obtain ⟨v, hv⟩ : ∃ q, q = xs[j] := ⟨_, rfl⟩
  rw [← hea] at c2
  rw [← heb] at c3
  rw [← hne] at c1 hj _hce
  rw [← hv] at hcx
  have he := hends _ (List.getElem_mem (by omega : j < (endsOf n).length))
  rw [← hea, ← heb] at he
  have HX := Lib.hid hx
  have HA := Lib.hid hA
  have HR : Hid (goodW n k l xs = !joinedF n (fitB n xs v) (sizeOfColor k l v - 2).toNat [(ea : Int), (eb : Int)] 0) := by
    show _ = _
    unfold goodW
    have h1 : xs.length - 1 = j := by omega
    rw [h1, show xs.getD j 0 = v by rw [hv]; exact getD_lt _ () (by omega), show (endsOf n).getD j (0, 0) = (endsOf n)[j]'(by omega) from getD_lt _ () (by omega)]
    rw [hea, heb]
  clear hx hA hea heb hne hv hends
  have b1 : (0 : Int) ≤ j ∧ (j : Int) < ne := by omega
  have b2 : (0 : Int) ≤ j ∧ (j : Int) < (j : Int) + 1 := by omega
  have w1 : IntKind.i64.wrap (j : Int) = j := IntWalk.i64_in _ (by omega)
  go_enter Try.func60, Try.ntmps60
  go_wp2_with fail
  go_region_held3 (fun w' => w'.cell? ⟨pe, 0, none⟩ = some (.slice (some ⟨be, 0, none⟩) ne ce) ∧ w'.cell? ⟨be, j * 2, none⟩ = some (.int .i64 (ea : Nat)) ∧ w'.cell? ⟨be, j * 2 + 1, none⟩ = some (.int .i64 (eb : Nat)) ∧ w'.cell? ⟨b, o + j, none⟩ = some (.int .i64 v) ∧ Below w.heap.size w w')
    ((refine keep4 c1 c2 c3 hcx ?_; first | assumption | exact (Below.refl _ _).drew | exact ((Below.refl _ w).alloc (Nat.le_refl _) _).drew | exact Below.alloc (by assumption) (Below.size (by assumption)) _)) (fail)
  obtain ⟨W, hW⟩ : ∃ W, W = (w.alloc (.cells #[.int .i64 ea, .int .i64 eb] 73)).drew := ⟨_, rfl⟩
  have hBW : Below w.heap.size w W := by rw [hW]; exact ((Below.refl _ w).alloc (Nat.le_refl _) _).drew
  have hsz : W.heap.size = w.heap.size + 1 := by rw [hW]; simp
  have e1 : W.cell? ⟨w.heap.size, 0, none⟩ = some (.int .i64 ea) ∧ W.cell? ⟨w.heap.size, 1, none⟩ = some (.int .i64 eb) := by
    rw [hW]
    constructor
    · show (w.alloc (.cells #[.int .i64 ea, .int .i64 eb] 73)).cell? _ = _
      rw [World.cell?_alloc_at _ _ _ _ rfl]; rfl
    · show (w.alloc (.cells #[.int .i64 ea, .int .i64 eb] 73)).cell? _ = _
      rw [World.cell?_alloc_at _ _ _ _ rfl]; rfl
  obtain ⟨e1a, e1b⟩ := e1
  have e4 := (hBW.cell (World.block_lt_of_cell? _ _ c4)).trans c4
  have e5 := (hBW.cell (World.block_lt_of_cell? _ _ c5)).trans c5
  have e6 := (hBW.cell (World.block_lt_of_cell? _ _ c6)).trans c6
  have e7 := (hBW.cell (World.block_lt_of_cell? _ _ c7)).trans c7
  have hAW := HA.out.below hBW
  rw [← hW]
  have HB := Lib.hid hBW
  have HAW := Lib.hid hAW
  clear hBW hAW hW c1 c2 c3 c4 c5 c6 c7 hcx w1
  have hrow : Rd (W.alloc (.cells #[.int .i64 (ea : Int), .int .i64 (eb : Int)] 3)) (some ⟨W.heap.size, 0, none⟩) [(ea : Int), (eb : Int)] := rd_two _ _ _ _ rfl
  have hB2 : Below W.heap.size W (W.alloc (.cells #[.int .i64 (ea : Int), .int .i64 (eb : Int)] 3)) := (Below.refl _ _).alloc (Nat.le_refl _) _
  have HJC : ∀ mz : Int, 2 ≤ mz → mz ≤ 4 → sizeOfColor k l v = mz → Hid (Calls Try.prog 58 #[.slice (some ⟨b, o, none⟩) (j + 1) c, .slice (some ⟨W.heap.size, 0, none⟩) 2 2, .int .i64 v, .int .i64 (mz - 2), .int .i64 0, .pointer (some ⟨pn, 0, none⟩), .pointer (some ⟨pj, 0, none⟩)] (W.alloc (.cells #[.int .i64 (ea : Int), .int .i64 (eb : Int)] 3)) fun e w' =>
      e = .returned (.bool (!goodW n k l xs)) ∧ Below w.heap.size w w') := by
    intro mz h1 h2 h3
    have q := joined_calls n hn xs v pn pj (mz - 2).toNat (some ⟨b, o, none⟩) (some ⟨W.heap.size, 0, none⟩) (j + 1) c 2 2 0 (mz - 2) 0 [(ea : Int), (eb : Int)] (W.alloc (.cells #[.int .i64 (ea : Int), .int .i64 (eb : Int)] 3))
      (by omega) rfl HX.out rfl (by omega) (by omega) (Nat.zero_le _) (HAW.out.below hB2) hrow hc hc2 (Nat.le_refl _) (by omega) (fun h => by cases h) (by intro u hu; simp at hu; omega)
      ((hB2.cell (World.block_lt_of_cell? _ _ e7)).trans e7) ((hB2.cell (World.block_lt_of_cell? _ _ e6)).trans e6)
    refine q.mono ?_
    rintro e w' ⟨rfl, hb⟩
    refine ⟨ret_bool ?_, (HB.out.trans (hB2.mono (by omega))).trans (hb.mono (by simp; omega))⟩
    rw [HR.out, h3, Bool.not_not]
  clear hsz
  cases hv1 : (v == 1)
  · have HC := HJC k hk.1 hk.2 (by unfold sizeOfColor; rw [hv1]; rfl)
    clear HJC hrow hB2
    go_wp2_with fail
    with_reducible refine HC.out.mono ?_
    rintro e w' ⟨rfl, hb⟩
    have HB' := Lib.hid hb
    clear hb
    go_wp2_with fail
    go_ret
    exact ⟨ret_bool (by simp), HB'.out⟩
  · have HC := HJC l hl.1 hl.2 (by unfold sizeOfColor; rw [hv1]; rfl)
    clear HJC hrow hB2
    go_wp2_with fail
    with_reducible refine HC.out.mono ?_
    rintro e w' ⟨rfl, hb⟩
    have HB' := Lib.hid hb
    clear hb
    go_wp2_with fail
    go_ret
    exact ⟨ret_bool (by simp), HB'.out⟩
end Go.Proofs.Ytplafgmceggcnaa
