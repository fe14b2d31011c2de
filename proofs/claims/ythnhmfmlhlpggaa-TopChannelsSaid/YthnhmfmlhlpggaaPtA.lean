/- What is proved: words for slices of integers, and contracts of place, Clip, IndexFunc, ContainsFunc, colored$1, clique$1 (contracts of functions of paint, and what they need). No condition beyond those in each statement. -/
import Derived.Test.YthnhmfmlhlpggaaProg
import Derived.WalkKit
import Derived.WalkSpells
import Derived.WalkLawsBesides
import Derived.Deep.QuietTactic
import Derived.BigQuiet
import Derived.Lib.Hide
import Derived.Deep.LoopGhost
namespace Go.Proofs.Ythnhmfmlhlpggaa.Pt
open Go.RowKit
set_option maxRecDepth 100000

/-- What a slice's address reads as: the cells of its elements. -/
def Rd (w : World) (A : Option Addr) (xs : List Int) : Prop :=
  xs ≠ [] → ∃ b o, A = some ⟨b, o, none⟩ ∧ b < w.heap.size ∧ ∀ i (hi : i < xs.length), w.cell? ⟨b, o + i, none⟩ = some (.int .i64 xs[i])

theorem Rd.below {w w' : World} {A : Option Addr} {xs : List Int} (h : Rd w A xs) (hb : Below w.heap.size w w') : Rd w' A xs := fun hne => by
  obtain ⟨b, o, e, hlt, hc⟩ := h hne
  exact ⟨b, o, e, Nat.lt_of_lt_of_le hlt hb.size, fun i hi => (hb.cell (p := ⟨b, o + i, none⟩) hlt).trans (hc i hi)⟩

theorem Rd.at {w : World} {A : Option Addr} {xs : List Int} (h : Rd w A xs) (i : Nat) (hi : i < xs.length) :
    ∃ b o, A = some ⟨b, o, none⟩ ∧ b < w.heap.size ∧ w.cell? ⟨b, o + i, none⟩ = some (.int .i64 xs[i]) := by
  obtain ⟨b, o, e, hlt, hc⟩ := h (fun e => by subst e; simp at hi)
  exact ⟨b, o, e, hlt, hc i hi⟩

/-- A slice value that reads as a list of ints. -/
def Sl (w : World) (v : Value) (xs : List Int) : Prop := ∃ A c, v = .slice A xs.length c ∧ xs.length ≤ c ∧ c ≤ 9223372036854775807 ∧ (A = none → c = 0) ∧ Rd w A xs
theorem Sl.below {w w' : World} {v : Value} {xs : List Int} (h : Sl w v xs) (hb : Below w.heap.size w w') : Sl w' v xs := by
  obtain ⟨A, c, e, h1, h2, h3, h4⟩ := h
  exact ⟨A, c, e, h1, h2, h3, h4.below hb⟩
/-- A slice value whose row the call itself has made (block numbers from base on). -/
def Ow (w : World) (base : Nat) (v : Value) (xs : List Int) : Prop := w.ownsRow base 3 1 v xs.length (xs.map (Value.int .i64))
theorem addr_add (b o j : Nat) : (⟨b, o, none⟩ : Addr).add j = ⟨b, o + j, none⟩ := by unfold Addr.add; split <;> simp_all
theorem Ow.sl {w : World} {base : Nat} {v : Value} {xs : List Int} (h : Ow w base v xs) : Sl w v xs := by
  have h' := h
  rcases h with ⟨hl, ⟨rfl, hn⟩ | ⟨g, cap, cur, rfl, hb, hg, h1, h2, h3, h4⟩⟩
  · have : xs = [] := List.eq_nil_of_length_eq_zero hn
    subst this
    exact ⟨none, 0, rfl, Nat.le_refl _, by omega, fun _ => rfl, fun h => absurd rfl h⟩
  · refine ⟨some ⟨g, 0, none⟩, cap, rfl, h1, by simpa [maxLen] using h2, fun h => (by cases h), fun _ => ⟨g, 0, rfl, (Array.getElem?_eq_some_iff.1 hg).1, fun i hi => ?_⟩⟩
    have := World.ownsRow.cells h' (g := g) rfl i (.int .i64 xs[i]) (by simp [hi])
    rwa [addr_add] at this
theorem Ow.below {w w' : World} {base : Nat} {v : Value} {xs : List Int} (h : Ow w base v xs) (hb : Below w.heap.size w w') : Ow w' base v xs := by
  refine World.ownsRow.kept h (row := none) ⟨hb.os, hb.tape, hb.output, hb.size, fun k hk _ => hb.block k hk⟩ ?_
  cases v.ownBlock <;> simp
theorem info3 : (Try.prog.info? 3).map (fun i => (i.zero, i.size, i.bytes)) = some (some (.int .i64 0), 1, 8) := by kernel_rfl

/-- append of a non-empty list to a slice without room: a new row. -/
theorem app_run (w : World) (A : Option Addr) (xs ys : List Int) (hx : Rd w A xs) (hn : A = none → xs = []) (B : Option Addr) (cy : Nat) (hy : Rd w B ys) (hne : ys ≠ []) (hb : xs.length + ys.length ≤ 1000000) :
    ∃ v' w', (Builtin.append_ #[27, 27] 27 #[.slice A xs.length xs.length, .slice B ys.length cy]).run Try.prog w = .ok v' w' ∧ Ow w' w.heap.size v' (xs ++ ys) ∧ Below w.heap.size w w' := by
  obtain ⟨i0, hi, hz0, hz1, hz2⟩ := info_parts info3
  obtain ⟨b, o, rfl, hlt, hc⟩ := hy hne
  have hnews : ∀ j u, (ys.map (Value.int .i64))[j]? = some u → w.cell? ((⟨b, o, none⟩ : Addr).add j) = some u := by
    intro j u hj
    rw [List.getElem?_map] at hj
    obtain ⟨x, hx1, hx2⟩ := Option.map_eq_some_iff.1 hj
    obtain ⟨hj1, hj2⟩ := List.getElem?_eq_some_iff.1 hx1
    rw [addr_add, hc j hj1, hj2, hx2]
  have hlen : 0 < ys.length := List.length_pos_iff.2 hne
  cases A with
  | none =>
    obtain rfl := hn rfl
    obtain ⟨v', w', hrun, r1, r2, _⟩ := run_append_own (P := Try.prog) w w.heap.size 27 27 3 i0 (.int .i64 0) 1 8 Try.underlying27 hi hz0 hz1 hz2 rfl (by decide) (.slice none 0 0) 0 [] (World.ownsRow_nil w _ 3 1) ⟨b, o, none⟩ ys.length cy (ys.map (Value.int .i64)) (by simp) hnews (by simp [Value.oneCell']) (by simp [maxLen] at *; omega) (by simp at *; omega) (Nat.le_refl _)
    refine ⟨v', w', hrun, ?_, (Below.refl _ _).grown r2 (Nat.le_refl _) (fun k e => by simp [Value.ownBlock] at e)⟩
    simpa [Ow] using r1
  | some a =>
    have holds : ∀ j u, (xs.map (Value.int .i64))[j]? = some u → w.cell? (a.add j) = some u := by
      intro j u hj
      rw [List.getElem?_map] at hj
      obtain ⟨x, hx1, hx2⟩ := Option.map_eq_some_iff.1 hj
      obtain ⟨hj1, hj2⟩ := List.getElem?_eq_some_iff.1 hx1
      obtain ⟨b', o', e, _, hc'⟩ := hx (fun e => by subst e; simp at hj1)
      cases e
      rw [addr_add, hc' j hj1, hj2, hx2]
    obtain ⟨v', w', hrun, r1, r2⟩ := run_append_arg_grows (P := Try.prog) w 27 27 3 i0 (.int .i64 0) 1 8 Try.underlying27 hi hz0 hz1 hz2 rfl (by decide) a xs.length xs.length (xs.map (Value.int .i64)) (by simp) holds ⟨b, o, none⟩ ys.length cy (ys.map (Value.int .i64)) (by simp) hnews (by omega) (by simp [maxLen]; omega) (by omega)
    refine ⟨v', w', hrun, ?_, (Below.refl _ _).grown r2 (Nat.le_refl _) (fun k e => by cases e)⟩
    simpa [Ow] using r1

theorem any_take_succ {p : Int → Bool} {xs : List Int} {k : Nat} (hk : k < xs.length) (h : (xs.take k).any p = false) (h' : p xs[k] = false) : (xs.take (k + 1)).any p = false := by
  rw [List.take_succ_eq_append_getElem hk, List.any_append, h]; simp [h']
theorem any_at {p : Int → Bool} {xs : List Int} {k : Nat} (hk : k < xs.length) (h : p xs[k] = true) : xs.any p = true := by
  rw [List.any_eq_true]; exact ⟨xs[k], List.getElem_mem hk, h⟩

theorem ret_bool {a b : Bool} (h : a = b) : Ending.returned (.bool a) = .returned (.bool b) := by rw [h]
theorem ret_int {k : IntKind} {a b : Int} (h : a = b) : Ending.returned (.int k a) = .returned (.int k b) := by rw [h]

def placeZ (n a b : Int) : Int := a * (2 * n - a - 1) / 2 + b - a - 1

set_option maxHeartbeats 400000 in
theorem place_calls (n a b : Int) (w : World) (h1 : 0 ≤ a) (h2 : a ≤ b) (h3 : b < n) (h4 : n ≤ 100) :
    Calls Try.prog 66 #[.int .i64 n, .int .i64 a, .int .i64 b] w fun e w' => e = .returned (.int .i64 (placeZ n a b)) ∧ w = w' := by
  have hb : 0 ≤ a * (2 * n - a - 1) ∧ a * (2 * n - a - 1) ≤ 20000 := by
    constructor
    · exact Int.mul_nonneg h1 (by omega)
    · calc a * (2 * n - a - 1) ≤ 100 * (2 * n - a - 1) := Int.mul_le_mul_of_nonneg_right (by omega) (by omega)
        _ ≤ 100 * 200 := Int.mul_le_mul_of_nonneg_left (by omega) (by omega)
  go_enter Try.func66, Try.ntmps66
  go_wp2
  go_ret
  exact ⟨rfl, rfl⟩

set_option maxHeartbeats 400000 in
theorem clip_calls (A : Option Addr) (n c : Nat) (w : World) (h : n ≤ c) :
    Calls Try.prog 67 #[.slice A n c] w fun e w' => e = .returned (.slice A n n) ∧ w = w' := by
  go_enter Try.func67, Try.ntmps67
  go_wp2
  go_ret
  exact ⟨rfl, rfl⟩

set_option maxHeartbeats 400000 in
theorem indexFunc_calls (fid : Nat) (caps : Array Value) (hen : ∀ args w, (callFunc fid args).run Try.prog w = .ok (.enter fid args) w)
    (p : Int → Bool) (A : Option Addr) (c : Nat) (xs : List Int) (w : World) (hx : Rd w A xs) (hl : xs.length ≤ c) (_hc : c ≤ 9223372036854775807)
    (hp : ∀ (i : Nat) (W : World) (hi : i < xs.length), Below w.heap.size w W →
      Calls Try.prog fid (#[.int .i64 xs[i]] ++ caps) W fun e W' => e = .returned (.bool (p xs[i])) ∧ Below W.heap.size W W') :
    Calls Try.prog 104 #[.slice A xs.length c, .func (.func fid) #[] caps] w fun e w' =>
      ∃ i : Int, e = .returned (.int .i64 i) ∧ decide (i ≥ 0) = xs.any p ∧ Below w.heap.size w w' := by
  have HP := Lib.hid hp
  have HX := Lib.hid hx
  clear hp hx
  go_enter Try.func104, Try.ntmps104
  go_wp2
  go_loopw [8] (fun v wr => ∃ k : Nat, v = .int .i64 k ∧ k ≤ xs.length ∧ Hid ((xs.take k).any p = false) ∧ Hid (Below w.heap.size w wr)) (fun v _ => xs.length - (intOf v).toNat)
  case atStart => exact ⟨0, rfl, Nat.zero_le _, (by simp : (xs.take 0).any p = false), Below.refl _ _⟩
  case round =>
    obtain ⟨k, rfl, hk, HA, HB⟩ := hrel
    by_cases hlt : k < xs.length
    · obtain ⟨b, o, rfl, hb, hcell⟩ := HX.out.at k hlt
      have hcell' := (HB.out.cell (p := ⟨b, o + k, none⟩) hb).trans hcell
      clear hcell
      go_wp2_with fail
      refine (HP.out k _ hlt HB.out).mono ?_
      rintro e W' ⟨rfl, hB2⟩
      have HB2 := Lib.hid (HB.out.trans (hB2.mono (by have := HB.out.size; omega)))
      clear hB2
      cases hpk : p xs[k]
      · have HQ := Lib.hid hpk
        clear hpk
        go_wp2
        go_roundw
        case rel => exact ⟨k + 1, by go_num, by omega, any_take_succ hlt HA.out HQ.out, HB2⟩
        case measure => simp [intOf]; omega
      · have HQ := Lib.hid hpk
        clear hpk
        go_wp2
        go_ret
        exact ⟨k, rfl, by rw [any_at hlt HQ.out]; simp, HB2.out⟩
    · have hk' : k = xs.length := by omega
      have HA' : xs.any p = false := by have := HA.out; rwa [hk', List.take_length] at this
      have HA2 := Lib.hid HA'
      clear HA' hk'
      go_wp2
      go_ret
      exact ⟨-1, rfl, by simp [HA2.out], HB.out⟩

set_option maxHeartbeats 400000 in
theorem containsFunc_calls (fid : Nat) (caps : Array Value) (hen : ∀ args w, (callFunc fid args).run Try.prog w = .ok (.enter fid args) w)
    (p : Int → Bool) (A : Option Addr) (c : Nat) (xs : List Int) (w : World) (hx : Rd w A xs) (hl : xs.length ≤ c) (hc : c ≤ 9223372036854775807)
    (hp : ∀ (i : Nat) (W : World) (hi : i < xs.length), Below w.heap.size w W →
      Calls Try.prog fid (#[.int .i64 xs[i]] ++ caps) W fun e W' => e = .returned (.bool (p xs[i])) ∧ Below W.heap.size W W') :
    Calls Try.prog 61 #[.slice A xs.length c, .func (.func fid) #[] caps] w fun e w' =>
      e = .returned (.bool (xs.any p)) ∧ Below w.heap.size w w' := by
  have HC := Lib.hid (indexFunc_calls fid caps hen p A c xs w hx hl hc hp)
  clear hp hx
  go_enter Try.func61, Try.ntmps61
  go_wp2_with fail
  refine HC.out.mono ?_
  rintro e W' ⟨i, rfl, hi, hB⟩
  go_wp2
  go_ret
  exact ⟨ret_bool rfl, hB⟩

set_option maxHeartbeats 400000 in
theorem colored1_calls (c below : Int) (b : Nat) (w : World) (hb : w.cell? ⟨b, 0, none⟩ = some (.int .i64 below)) :
    Calls Try.prog 64 #[.int .i64 c, .pointer (some ⟨b, 0, none⟩)] w fun e w' => e = .returned (.bool (decide (c < 0) || decide (c ≥ below))) ∧ Below w.heap.size w w' := by
  by_cases h : c < 0
  · go_enter Try.func64, Try.ntmps64
    go_wp2
    go_ret
    exact ⟨by simp [h], Below.refl _ _⟩
  · have h' : decide (c < 0) = false := by simpa using h
    go_enter Try.func64, Try.ntmps64
    go_wp2
    go_ret
    exact ⟨by simp, Below.refl _ _⟩

set_option maxHeartbeats 400000 in
theorem clique1_calls (u n v color : Int) (A : Option Addr) (cap : Nat) (cs : List Int) (b1 b2 b3 b4 : Nat) (w : World)
    (h0 : 0 ≤ u) (h1 : u < v) (h2 : v < n) (h3 : n ≤ 100) (hx : Rd w A cs) (hr : placeZ n u v < cs.length)
    (c1 : w.cell? ⟨b1, 0, none⟩ = some (.slice A cs.length cap)) (c2 : w.cell? ⟨b2, 0, none⟩ = some (.int .i64 n)) (c3 : w.cell? ⟨b3, 0, none⟩ = some (.int .i64 v)) (c4 : w.cell? ⟨b4, 0, none⟩ = some (.int .i64 color)) :
    Calls Try.prog 65 #[.int .i64 u, .pointer (some ⟨b1, 0, none⟩), .pointer (some ⟨b2, 0, none⟩), .pointer (some ⟨b3, 0, none⟩), .pointer (some ⟨b4, 0, none⟩)] w fun e w' =>
      e = .returned (.bool (cs.getD (placeZ n u v).toNat 0 != color)) ∧ Below w.heap.size w w' := by
  have hp0 : 0 ≤ placeZ n u v := by
    unfold placeZ
    have : 0 ≤ u * (2 * n - u - 1) := Int.mul_nonneg h0 (by omega)
    omega
  obtain ⟨k, hk⟩ := Int.eq_ofNat_of_zero_le hp0
  have hkl : k < cs.length := by omega
  obtain ⟨b, o, rfl, hb, hcell⟩ := hx.at k hkl
  have hcl : 0 ≤ placeZ n u v ∧ placeZ n u v < cs.length := ⟨hp0, hr⟩
  clear hx
  have HK := Lib.hid hk
  have hcell2 : w.cell? ⟨b, o + (placeZ n u v).toNat, none⟩ = some (.int .i64 (cs.getD (placeZ n u v).toNat 0)) := by rw [hk]; simp [hkl, hcell]
  clear hk hcell
  go_enter Try.func65, Try.ntmps65
  go_wp2
  go_quiet ((go_at_call 66; exact Calls.quiet_of_same ((place_calls _ _ _ _ h0 (Int.le_of_lt h1) h2 h3).mono fun e w' h => ⟨h.1, h.2.symm⟩)))
  go_wp2
  go_ret
  exact ⟨ret_bool (by rw [List.getD_eq_getElem?_getD, List.getElem?_eq_getElem (by omega)]; rfl), below_drewN (Below.refl _ _) _⟩

end Go.Proofs.Ythnhmfmlhlpggaa.Pt
