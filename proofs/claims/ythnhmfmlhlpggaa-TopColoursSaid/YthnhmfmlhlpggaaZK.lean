/- What is proved: whether a colouring of edges clashes (contracts of functions of patch, and what they need). No condition beyond those in each statement. -/
import Derived.Test.YthnhmfmlhlpggaaZJ
import Derived.Test.YthnhmfmlhlpggaaS
namespace Go.Proofs.Ythnhmfmlhlpggaa
open Go.RowKit Kn
set_option maxRecDepth 100000

set_option maxHeartbeats 400000 in
theorem indexPair_calls (fid : Nat) (caps : Array Value) (hen : ∀ args w, (callFunc fid args).run Try.prog w = .ok (.enter fid args) w)
    (p : Int × Int → Bool) (A : Option Addr) (c : Nat) (es : List (Int × Int)) (w : World) (hx : RdE w A es) (hl : es.length ≤ c) (_hc : c ≤ 9223372036854775807)
    (hp : ∀ (i : Nat) (W : World) (hi : i < es.length), Below w.heap.size w W →
      Calls Try.prog fid (#[.agg #[.int .i64 es[i].1, .int .i64 es[i].2]] ++ caps) W fun e W' => e = .returned (.bool (p es[i])) ∧ Below W.heap.size W W') :
    Calls Try.prog 68 #[.slice A es.length c, .func (.func fid) #[] caps] w fun e w' =>
      ∃ i : Int, e = .returned (.int .i64 i) ∧ decide (i ≥ 0) = es.any p ∧ Below w.heap.size w w' := by
  have HP := Lib.hid hp
  have HX := Lib.hid hx
  clear hp hx
  go_enter Try.func68, Try.ntmps68
  go_wp2
  go_loopw [8] (fun v wr => ∃ k : Nat, v = .int .i64 k ∧ k ≤ es.length ∧ Hid ((es.take k).any p = false) ∧ Hid (Below w.heap.size w wr)) (fun v _ => es.length - (intOf v).toNat)
  case atStart => exact ⟨0, rfl, Nat.zero_le _, (by simp : (es.take 0).any p = false), Below.refl _ _⟩
  case round =>
    obtain ⟨k, rfl, hk, HA, HB⟩ := hrel
    by_cases hlt : k < es.length
    · obtain ⟨b, o, rfl, hb, hc1, hc2⟩ := HX.out.at k hlt
      have d1 := (HB.out.cell (p := ⟨b, o + k * 2, none⟩) hb).trans hc1
      have d2 := (HB.out.cell (p := ⟨b, o + k * 2 + 1, none⟩) hb).trans hc2
      clear hc1 hc2
      go_wp2_with fail
      refine (HP.out k _ hlt HB.out).mono ?_
      rintro e W' ⟨rfl, hB2⟩
      have HB2 := Lib.hid (HB.out.trans (hB2.mono (by have := HB.out.size; omega)))
      clear hB2
      cases hpk : p es[k]
      · have HQ := Lib.hid hpk
        clear hpk
        go_wp2
        go_roundw
        case rel => exact ⟨k + 1, by go_num, by omega, anyE_succ hlt HA.out HQ.out, HB2⟩
        case measure => simp [intOf]; omega
      · have HQ := Lib.hid hpk
        clear hpk
        go_wp2
        go_ret
        exact ⟨k, rfl, by rw [anyE_at hlt HQ.out]; simp, HB2.out⟩
    · have hk' : k = es.length := by omega
      have HA' : es.any p = false := by have := HA.out; rwa [hk', List.take_length] at this
      have HA2 := Lib.hid HA'
      clear HA' hk'
      go_wp2
      go_ret
      exact ⟨-1, rfl, by simp [HA2.out], HB.out⟩
set_option maxHeartbeats 400000 in
theorem containsPair_calls (fid : Nat) (caps : Array Value) (hen : ∀ args w, (callFunc fid args).run Try.prog w = .ok (.enter fid args) w)
    (p : Int × Int → Bool) (A : Option Addr) (c : Nat) (es : List (Int × Int)) (w : World) (hx : RdE w A es) (hl : es.length ≤ c) (hc : c ≤ 9223372036854775807)
    (hp : ∀ (i : Nat) (W : World) (hi : i < es.length), Below w.heap.size w W →
      Calls Try.prog fid (#[.agg #[.int .i64 es[i].1, .int .i64 es[i].2]] ++ caps) W fun e W' => e = .returned (.bool (p es[i])) ∧ Below W.heap.size W W') :
    Calls Try.prog 28 #[.slice A es.length c, .func (.func fid) #[] caps] w fun e w' =>
      e = .returned (.bool (es.any p)) ∧ Below w.heap.size w w' := by
  have HC := Lib.hid (indexPair_calls fid caps hen p A c es w hx hl hc hp)
  clear hp hx
  go_enter Try.func28, Try.ntmps28
  go_wp2_with fail
  refine HC.out.mono ?_
  rintro e W' ⟨i, rfl, hi, hB⟩
  go_wp2
  go_ret
  exact ⟨ret_bool rfl, hB⟩

theorem pair29_calls (a b x y : Int) (ba bb : Nat) (hx : 0 ≤ x ∧ x < a) (hy : 0 ≤ y ∧ y < b) (w : World) (ha : w.cell? ⟨ba, 0, none⟩ = some (.int .i64 a)) (hb : w.cell? ⟨bb, 0, none⟩ = some (.int .i64 b)) :
    Calls Try.prog 29 #[.agg #[.int .i64 x, .int .i64 y], .pointer (some ⟨ba, 0, none⟩), .pointer (some ⟨bb, 0, none⟩)] w fun e w' => e = .returned (.bool false) ∧ Below w.heap.size w w' := by
  have hb1 : Below w.heap.size w (w.alloc (.cells #[.int .i64 x, .int .i64 y] 26)) := (Below.refl _ w).alloc (Nat.le_refl _) _
  have ha' := (hb1.cell (p := ⟨ba, 0, none⟩) (World.block_lt_of_cell? _ _ ha)).trans ha
  have hb' := (hb1.cell (p := ⟨bb, 0, none⟩) (World.block_lt_of_cell? _ _ hb)).trans hb
  obtain ⟨x0, x1⟩ := hx
  obtain ⟨y0, y1⟩ := hy
  rcases Int.lt_or_le y x with hxy | hxy
  all_goals
    go_enter Try.func29, Try.ntmps29
    go_wp2
    go_ret
    exact ⟨ret_bool (by simp; omega), (Below.refl _ _).alloc (Nat.le_refl _) _⟩

/-- Do edge j and edge i of a coloured list clash? -/
def clp (es : List (Int × Int)) (l : List Int) (i j : Nat) : Bool := l.getD j 0 == l.getD i 0 && (eA es j == eA es i || eB es j == eB es i)
theorem eA_at {es : List (Int × Int)} {i : Nat} (h : i < es.length) : eA es i = es[i].1 := by unfold eA; rw [List.getD_eq_getElem?_getD, List.getElem?_eq_getElem h]; rfl
theorem eB_at {es : List (Int × Int)} {i : Nat} (h : i < es.length) : eB es i = es[i].2 := by unfold eB; rw [List.getD_eq_getElem?_getD, List.getElem?_eq_getElem h]; rfl
def ClI (w : World) (es : List (Int × Int)) (l : List Int) (i : Nat) (v : Value) (wr : World) : Prop := ∃ j : Nat, v = .int .i64 j ∧ j ≤ i ∧ Hid ((List.range j).any (clp es l i) = false) ∧ Hid (Below w.heap.size w wr)
theorem range_any_succ {p : Nat → Bool} {j : Nat} : (List.range (j + 1)).any p = ((List.range j).any p || p j) := by rw [List.range_succ, List.any_append]; simp
theorem range_any_lt {p : Nat → Bool} {j i : Nat} (h : j < i) (hp : p j = true) : (List.range i).any p = true := List.any_eq_true.2 ⟨j, List.mem_range.2 h, hp⟩

set_option maxHeartbeats 4000000 in
theorem clash_calls (es : List (Int × Int)) (l : List Int) (A B : Option Addr) (m c k d i : Nat) (hm : m = es.length) (hl : m ≤ c) (hc : c ≤ 9223372036854775807) (hk : k = l.length) (hd : k ≤ d) (_hd2 : d ≤ 9223372036854775807) (hi : i < m) (hik : k = i + 1) (w : World) (hA : RdE w A es) (hB : Rd w B l) :
    Calls Try.prog 70 #[.slice A m c, .slice B k d, .int .i64 i] w fun e w' => e = .returned (.bool (clashF es l)) ∧ Below w.heap.size w w' := by
  have HCL : Hid (clashF es l = (List.range i).any (clp es l i)) := by
    show _ = _
    unfold clashF
    rw [← hk, hik, Nat.add_sub_cancel]; rfl
  have him : i < es.length := by omega
  have hil : i < l.length := by omega
  obtain ⟨b, o, rfl, hb, hcx, hcy⟩ := hA.at i him
  obtain ⟨b2, o2, rfl, hb2, hci⟩ := hB.at i hil
  have HM := Lib.hid hm
  have HK := Lib.hid hk
  have HA := Lib.hid hA
  have HB := Lib.hid hB
  have HXI := Lib.hid (eA_at him)
  have HYI := Lib.hid (eB_at him)
  have HLI := Lib.hid (getD_lt (0 : Int) () hil)
  have hcx : w.cell? ⟨b, o + i * 2, none⟩ = some (.int .i64 (eA es i)) := hcx.trans (by rw [HXI.out])
  have hcy : w.cell? ⟨b, o + i * 2 + 1, none⟩ = some (.int .i64 (eB es i)) := hcy.trans (by rw [HYI.out])
  have hci : w.cell? ⟨b2, o2 + i, none⟩ = some (.int .i64 (l.getD i 0)) := hci.trans (by rw [HLI.out])
  have HC3 := Lib.hid (And.intro hcx (And.intro hcy hci))
  clear hm hk hA hB hcx hcy hci
  subst hik
  go_enter Try.func70, Try.ntmps70
  go_wp2_with fail
  go_loopw [13] (fun v wr => ClI w es l i v wr) (fun v _ => i - (intOf v).toNat)
  case atStart => exact ⟨0, rfl, Nat.zero_le _, rfl, Below.refl _ _⟩
  case round =>
    obtain ⟨j, rfl, hj, HG, HBL⟩ := hrel
    by_cases hji : j < i
    · have hjm : j < es.length := by omega
      have hjl : j < l.length := by omega
      obtain ⟨bb, oo, e, hbb, hdx, hdy⟩ := (HA.out.below HBL.out).at j hjm
      cases e
      obtain ⟨bb2, oo2, e, hbb2, hdl⟩ := (HB.out.below HBL.out).at j hjl
      cases e
      have hdx' : wr.cell? ⟨b, o + j * 2, none⟩ = some (.int .i64 (eA es j)) := hdx.trans (by rw [eA_at hjm])
      have hdy' : wr.cell? ⟨b, o + j * 2 + 1, none⟩ = some (.int .i64 (eB es j)) := hdy.trans (by rw [eB_at hjm])
      have hdl' : wr.cell? ⟨b2, o2 + j, none⟩ = some (.int .i64 (l.getD j 0)) := hdl.trans (by rw [getD_lt (0 : Int) () hjl])
      have hcx := (HBL.out.cell (p := ⟨b, o + i * 2, none⟩) hb).trans HC3.out.1
      have hcy := (HBL.out.cell (p := ⟨b, o + i * 2 + 1, none⟩) hb).trans HC3.out.2.1
      have hci := (HBL.out.cell (p := ⟨b2, o2 + i, none⟩) hb2).trans HC3.out.2.2
      clear hdx hdy hdl
      have HP : Hid (clp es l i j = (l.getD j 0 == l.getD i 0 && (eA es j == eA es i || eB es j == eB es i))) := rfl
      have HNEXT : Hid (∀ q, clp es l i j = q → q = false → (List.range (j + 1)).any (clp es l i) = false) := fun q h1 h2 => by rw [range_any_succ, HG.out, h1, h2]; rfl
      have HYES : Hid (clp es l i j = true → clashF es l = true) := fun h => by rw [HCL.out]; exact range_any_lt hji h
      obtain ⟨xj, hxj⟩ : ∃ z, z = eA es j := ⟨_, rfl⟩
      obtain ⟨yj, hyj⟩ : ∃ z, z = eB es j := ⟨_, rfl⟩
      obtain ⟨lj, hlj⟩ : ∃ z, z = l.getD j 0 := ⟨_, rfl⟩
      obtain ⟨xi, hxi⟩ : ∃ z, z = eA es i := ⟨_, rfl⟩
      obtain ⟨yi, hyi⟩ : ∃ z, z = eB es i := ⟨_, rfl⟩
      obtain ⟨li, hli⟩ : ∃ z, z = l.getD i 0 := ⟨_, rfl⟩
      rw [← hxj, ← hyj, ← hlj, ← hxi, ← hyi, ← hli] at HP
      rw [← hxj] at hdx'
      rw [← hyj] at hdy'
      rw [← hlj] at hdl'
      rw [← hxi] at hcx
      rw [← hyi] at hcy
      rw [← hli] at hci
      clear hxj hyj hlj hxi hyi hli HG HC3
      have i0 : (0 : Int) ≤ (j : Int) := by omega
      have i1 : (j : Int) < (i : Int) := by omega
      have i2 : (0 : Int) ≤ (i : Int) := by omega
      have i3 : (i : Int) < (m : Int) := by omega
      have i4 : (j : Int) < (i : Int) + 1 := by omega
      have i5 : (i : Int) < (i : Int) + 1 := by omega
      -- the box of the edge
      have hb1 : Below wr.heap.size wr (wr.alloc (.cells #[.int .i64 xj, .int .i64 yj] 26)) := (Below.refl _ wr).alloc (Nat.le_refl _) _
      have HB1 := Lib.hid (HBL.out.trans (hb1.mono HBL.out.size))
      have hci' := (hb1.cell (p := ⟨b2, o2 + i, none⟩) (World.block_lt_of_cell? _ _ hci)).trans hci
      have hdl'' := (hb1.cell (p := ⟨b2, o2 + j, none⟩) (World.block_lt_of_cell? _ _ hdl')).trans hdl'
      have hcx' := (hb1.cell (p := ⟨b, o + i * 2, none⟩) (World.block_lt_of_cell? _ _ hcx)).trans hcx
      have hcy' := (hb1.cell (p := ⟨b, o + i * 2 + 1, none⟩) (World.block_lt_of_cell? _ _ hcy)).trans hcy
      clear hb1
      cases h1 : (lj == li)
      · rw [h1] at HP
        go_wp2_with fail
        go_quiet (fail)
        go_wp2_with fail
        go_roundw
        case rel => exact ⟨j + 1, by go_num, by omega, HNEXT.out _ HP.out rfl, below_drewN HB1.out _⟩
        case measure => simp [intOf]; omega
      · cases h2 : (xj == xi)
        · cases h3 : (yj == yi)
          · rw [h1, h2, h3] at HP
            go_wp2_with fail
            go_quiet (fail)
            go_wp2_with fail
            go_roundw
            case rel => exact ⟨j + 1, by go_num, by omega, HNEXT.out _ HP.out rfl, below_drewN HB1.out _⟩
            case measure => simp [intOf]; omega
          · rw [h1, h2, h3] at HP
            go_wp2_with fail
            go_quiet (fail)
            go_wp2_with fail
            go_ret
            exact ⟨ret_bool (HYES.out HP.out).symm, below_drewN HB1.out _⟩
        · rw [h1, h2] at HP
          go_wp2_with fail
          go_quiet (fail)
          go_wp2_with fail
          go_ret
          exact ⟨ret_bool (HYES.out HP.out).symm, below_drewN HB1.out _⟩
    · have he : j = i := by omega
      subst he
      go_wp2_with fail
      go_ret
      exact ⟨ret_bool (by rw [HCL.out, HG.out]), HBL.out⟩
end Go.Proofs.Ythnhmfmlhlpggaa
