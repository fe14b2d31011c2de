/- What is proved: check, at, deepest, Depth. No condition beyond those in each statement. -/
import Derived.Test.YthnhmfmlhlpggaaO
namespace Go.Proofs.Ythnhmfmlhlpggaa
open Go.RowKit
set_option maxRecDepth 100000

theorem anyE_succ {p : Int × Int → Bool} {es : List (Int × Int)} {k : Nat} (hk : k < es.length) (h : (es.take k).any p = false) (h' : p es[k] = false) : (es.take (k + 1)).any p = false := by
  rw [List.take_succ_eq_append_getElem hk, List.any_append, h]; simp [h']
theorem anyE_at {p : Int × Int → Bool} {es : List (Int × Int)} {k : Nat} (hk : k < es.length) (h : p es[k] = true) : es.any p = true := by
  rw [List.any_eq_true]; exact ⟨es[k], List.getElem_mem hk, h⟩
set_option maxHeartbeats 400000 in
theorem indexSpan_calls (fid : Nat) (caps : Array Value) (hen : ∀ args w, (callFunc fid args).run Try.prog w = .ok (.enter fid args) w)
    (p : Int × Int → Bool) (A : Option Addr) (c : Nat) (es : List (Int × Int)) (w : World) (hx : RdE w A es) (hl : es.length ≤ c) (_hc : c ≤ 9223372036854775807)
    (hp : ∀ (i : Nat) (W : World) (hi : i < es.length), Below w.heap.size w W →
      Calls Try.prog fid (#[.agg #[.int .i64 es[i].1, .int .i64 es[i].2]] ++ caps) W fun e W' => e = .returned (.bool (p es[i])) ∧ Below W.heap.size W W') :
    Calls Try.prog 111 #[.slice A es.length c, .func (.func fid) #[] caps] w fun e w' =>
      ∃ i : Int, e = .returned (.int .i64 i) ∧ decide (i ≥ 0) = es.any p ∧ Below w.heap.size w w' := by
  have HP := Lib.hid hp
  have HX := Lib.hid hx
  clear hp hx
  go_enter Try.func111, Try.ntmps111
  go_wp2
  go_loopw [8] (fun v wr => ∃ k : Nat, v = .int .i64 k ∧ k ≤ es.length ∧ Hid ((es.take k).any p = false) ∧ Hid (Below w.heap.size w wr)) (fun v _ => es.length - (intOf v).toNat)
  case atStart => exact ⟨0, rfl, Nat.zero_le _, (by simp : (es.take 0).any p = false), Below.refl _ _⟩
  case round =>
    obtain ⟨k, rfl, hk, HA, HB⟩ := hrel
    by_cases hlt : k < es.length
    · obtain ⟨b, o, rfl, hb, hc1, hc2⟩ := HX.out.at k hlt
      have d1 := (HB.out.cell (p := ⟨b, o + k * 2, none⟩) hb).trans hc1
      have d2 := (HB.out.cell (p := ⟨b, o + k * 2 + 1, none⟩) hb).trans hc2
      clear hc1 hc2
      go_wp2_with fail
      refine (HP.out k _ hlt HB.out).mono ?_
      rintro e W' ⟨rfl, hB2⟩
      have HB2 := Lib.hid (HB.out.trans (hB2.mono (by have := HB.out.size; omega)))
      clear hB2
      cases hpk : p es[k]
      · have HQ := Lib.hid hpk
        clear hpk
        go_wp2
        go_roundw
        case rel => exact ⟨k + 1, by go_num, by omega, anyE_succ hlt HA.out HQ.out, HB2⟩
        case measure => simp [intOf]; omega
      · have HQ := Lib.hid hpk
        clear hpk
        go_wp2
        go_ret
        exact ⟨k, rfl, by rw [anyE_at hlt HQ.out]; simp, HB2.out⟩
    · have hk' : k = es.length := by omega
      have HA' : es.any p = false := by have := HA.out; rwa [hk', List.take_length] at this
      have HA2 := Lib.hid HA'
      clear HA' hk'
      go_wp2
      go_ret
      exact ⟨-1, rfl, by simp [HA2.out], HB.out⟩
set_option maxHeartbeats 400000 in
theorem containsSpan_calls (fid : Nat) (caps : Array Value) (hen : ∀ args w, (callFunc fid args).run Try.prog w = .ok (.enter fid args) w)
    (p : Int × Int → Bool) (A : Option Addr) (c : Nat) (es : List (Int × Int)) (w : World) (hx : RdE w A es) (hl : es.length ≤ c) (hc : c ≤ 9223372036854775807)
    (hp : ∀ (i : Nat) (W : World) (hi : i < es.length), Below w.heap.size w W →
      Calls Try.prog fid (#[.agg #[.int .i64 es[i].1, .int .i64 es[i].2]] ++ caps) W fun e W' => e = .returned (.bool (p es[i])) ∧ Below W.heap.size W W') :
    Calls Try.prog 97 #[.slice A es.length c, .func (.func fid) #[] caps] w fun e w' =>
      e = .returned (.bool (es.any p)) ∧ Below w.heap.size w w' := by
  have HC := Lib.hid (indexSpan_calls fid caps hen p A c es w hx hl hc hp)
  clear hp hx
  go_enter Try.func97, Try.ntmps97
  go_wp2_with fail
  refine HC.out.mono ?_
  rintro e W' ⟨i, rfl, hi, hB⟩
  go_wp2
  go_ret
  exact ⟨ret_bool rfl, hB⟩
/-- Is a span not valid? -/
def badS (e : Int × Int) : Bool := decide (e.1 < 0) || decide (e.1 ≥ e.2) || decide (e.2 > 1000)
theorem check1_calls (a b : Int) (w : World) : Calls Try.prog 98 #[.agg #[.int .i64 a, .int .i64 b]] w fun e w' => e = .returned (.bool (badS (a, b))) ∧ Below w.heap.size w w' := by
  by_cases h1 : a < 0
  · go_enter Try.func98, Try.ntmps98
    go_wp2
    go_ret
    exact ⟨ret_bool (by simp [badS, h1]), (Below.refl _ _).alloc (Nat.le_refl _) _⟩
  · by_cases h2 : a ≥ b
    · go_enter Try.func98, Try.ntmps98
      go_wp2
      go_ret
      exact ⟨ret_bool (by simp [badS, h2]), (Below.refl _ _).alloc (Nat.le_refl _) _⟩
    · go_enter Try.func98, Try.ntmps98
      go_wp2
      go_ret
      exact ⟨ret_bool (by simp [badS]; omega), (Below.refl _ _).alloc (Nat.le_refl _) _⟩
theorem enters98 : ∀ args w, (callFunc 98 args).run Try.prog w = .ok (.enter 98 args) w := fun _ _ => rfl
def SpOk (es : List (Int × Int)) : Prop := es.length ≤ 40 ∧ ∀ e ∈ es, 0 ≤ e.1 ∧ e.1 < e.2 ∧ e.2 ≤ 1000
theorem spcheck_calls (A : Option Addr) (n c : Nat) (es : List (Int × Int)) (w : World) (hn : n = es.length) (hx : RdE w A es) (hl : n ≤ c) (hc : c ≤ 9223372036854775807) (ho : SpOk es) :
    Calls Try.prog 55 #[.slice A n c] w fun e w' => e = .returned (.int .i64 0) ∧ Below w.heap.size w w' := by
  subst hn
  have hg : es.any badS = false := by
    rw [List.any_eq_false]
    intro e he
    have := ho.2 e he
    simp [badS]
    omega
  have CC := containsSpan_calls 98 #[] enters98 badS A c es w hx hl hc (fun i W hi _ => check1_calls _ _ W)
  rw [hg] at CC
  have C2 := Lib.hid CC
  have h40 : es.length ≤ 40 := ho.1
  have hd : decide ((es.length : Int) > 40) = false := decide_eq_false (by omega)
  clear CC hg ho hx
  go_enter Try.func55, Try.ntmps55
  go_wp2_with fail
  refine C2.out.mono ?_
  rintro e W' ⟨rfl, hB⟩
  have HB := Lib.hid hB
  clear hB
  go_wp2_with fail
  go_ret
  exact ⟨rfl, HB.out⟩
/-- How many spans an integer is in. -/
def hasB (x : Int) (e : Int × Int) : Bool := decide (e.1 ≤ x) && decide (x < e.2)
def cntS (es : List (Int × Int)) (x : Int) : Nat := (es.filter (hasB x)).length
theorem cntS_succ {es : List (Int × Int)} {x : Int} {i : Nat} (hi : i < es.length) : cntS (es.take (i + 1)) x = cntS (es.take i) x + if hasB x es[i] = true then 1 else 0 := by
  unfold cntS
  rw [List.take_succ_eq_append_getElem hi, List.filter_append, List.length_append]
  by_cases h : hasB x es[i] = true
  · rw [if_pos h, List.filter_cons_of_pos h]; rfl
  · rw [if_neg h, List.filter_cons_of_neg h]; rfl
theorem cntS_le (es : List (Int × Int)) (x : Int) (i : Nat) : cntS (es.take i) x ≤ es.length := by
  unfold cntS
  have := List.length_filter_le (hasB x) (es.take i)
  rw [List.length_take] at this
  omega
def AtI (w : World) (es : List (Int × Int)) (x : Int) (n : Nat) (v5 v10 : Value) (wr : World) : Prop := ∃ (i : Nat) (L : List Int), v10 = .int .i64 i ∧ i ≤ n ∧ Hid (Ow wr w.heap.size v5 L) ∧ Hid (L.length = cntS (es.take i) x) ∧ Hid (Below w.heap.size w wr)
set_option maxHeartbeats 4000000 in
theorem at_calls (A : Option Addr) (n c : Nat) (es : List (Int × Int)) (x : Int) (w : World) (hn : n = es.length) (hx : RdE w A es) (_hl : n ≤ c) (_hc : c ≤ 9223372036854775807) (hn40 : n ≤ 1000) :
    Calls Try.prog 99 #[.slice A n c, .int .i64 x] w fun e w' => ∃ v L, e = .returned v ∧ Ow w' w.heap.size v L ∧ L.length = cntS es x ∧ Below w.heap.size w w' := by
  have HX := Lib.hid hx
  have HN := Lib.hid hn
  clear hx hn
  go_enter Try.func99, Try.ntmps99
  go_wp2_with fail
  go_loopw [5, 6, 7, 10] (fun v5 _ _ v10 wr => AtI w es x n v5 v10 wr) (fun _ _ _ v10 _ => n - (intOf v10).toNat)
  case atStart => exact ⟨0, [], rfl, Nat.zero_le _, ⟨rfl, .inl ⟨rfl, rfl⟩⟩, rfl, Below.refl _ _⟩
  case round =>
    obtain ⟨i, L, rfl, hi, HO, HL, HB⟩ := hrel
    by_cases hlt : i < n
    · have hil : i < es.length := by have := HN.out; omega
      obtain ⟨b, o, rfl, hb, hc1, hc2⟩ := HX.out.at i hil
      have d1 := (HB.out.cell (p := ⟨b, o + i * 2, none⟩) hb).trans hc1
      have d2 := (HB.out.cell (p := ⟨b, o + i * 2 + 1, none⟩) hb).trans hc2
      obtain ⟨p, q, hpq⟩ : ∃ p q, es[i] = (p, q) := ⟨_, _, rfl⟩
      rw [hpq] at d1 d2
      simp only at d1 d2
      have HC := Lib.hid (cntS_succ (x := x) hil)
      rw [hpq] at HC
      obtain ⟨W1, hW1⟩ : ∃ W1, W1 = wr.alloc (.cells #[.int .i64 p, .int .i64 q] 60) := ⟨_, rfl⟩
      have hB1 : Below w.heap.size w W1 := by rw [hW1]; exact HB.out.alloc HB.out.size _
      have HO1 : Hid (Ow W1 w.heap.size u5 L) := by rw [hW1]; exact World.ownsRow.alloc HO.out _
      have hLl : L.length ≤ 1000 := by have := HL.out; have := cntS_le es x i; have := HN.out; omega
      obtain ⟨A3, n3, c3, w3, hrun, ho3, hb3⟩ := ow_push (i : Int) HO1.out hB1.size hLl
      have HRUN := Lib.hid hrun
      have H3 := Lib.hid (And.intro ho3 (hB1.trans hb3))
      have HB1 := Lib.hid hB1
      have HW1 := Lib.hid hW1
      clear hc1 hc2 hrun ho3 hb3 hB1 hW1
      by_cases h1 : p ≤ x
      · by_cases h2 : x < q
        · have hh : hasB x (p, q) = true := by simp [hasB, h1, h2]
          rw [hh] at HC
          clear hh
          go_upto_if 24 with fail
          have hW1 := HW1.out
          rw [← hW1]
          clear hW1
          go_wp2_with (at_builtin; refine wpList_app rfl (.tmp 25) (.tmp 27) 27 27 rfl rfl _ _ rfl rfl HRUN.out ?_)
          go_roundw
          case rel => exact ⟨i + 1, L ++ [(i : Int)], by go_num, hlt, H3.out.1, by show (L ++ [(i : Int)]).length = _; rw [HC.out, if_pos rfl, List.length_append, HL.out]; rfl, H3.out.2⟩
          case measure => simp [intOf]; omega
        · have hh : hasB x (p, q) = false := by simp [hasB, h2]
          rw [hh] at HC
          have HOK := Lib.hid (And.intro HO1.out HB1.out)
          clear hh H3 HRUN
          go_upto_if 24 with fail
          have hW1 := HW1.out
          rw [← hW1]
          clear hW1
          go_wp2_with fail
          go_roundw
          case rel => exact ⟨i + 1, L, by go_num, hlt, HOK.out.1, by show L.length = _; rw [HC.out, HL.out]; rfl, HOK.out.2⟩
          case measure => simp [intOf]; omega
      · have hh : hasB x (p, q) = false := by simp [hasB, h1]
        rw [hh] at HC
        have HOK := Lib.hid (And.intro HO1.out HB1.out)
        clear hh H3 HRUN
        go_upto_if 24 with fail
        have hW1 := HW1.out
        rw [← hW1]
        clear hW1
        go_wp2_with fail
        go_roundw
        case rel => exact ⟨i + 1, L, by go_num, hlt, HOK.out.1, by show L.length = _; rw [HC.out, HL.out]; rfl, HOK.out.2⟩
        case measure => simp [intOf]; omega
    · have HF : Hid (L.length = cntS es x) := by
        show _ = _
        have := HL.out
        rw [this, List.take_of_length_le (by have := HN.out; omega)]
      go_wp2_with fail
      go_ret
      exact ⟨_, L, rfl, HO.out, HF.out, HB.out⟩
/-- The greatest depth at the beginnings of the first spans. -/
def depS (es : List (Int × Int)) : Nat → Nat
  | 0 => 0
  | k + 1 => max (depS es k) (cntS es (es.getD k (0, 0)).1)
def DpI (w : World) (es : List (Int × Int)) (n : Nat) (v4 v5 v11 : Value) (wr : World) : Prop := ∃ (i : Nat) (p : Int) (L : List Int), v11 = .int .i64 i ∧ i ≤ n ∧ v4 = .int .i64 p ∧ Hid (Sl wr v5 L) ∧ Hid (L.length = depS es i) ∧ Hid (Below w.heap.size w wr)
theorem depS_le (es : List (Int × Int)) (k : Nat) : depS es k ≤ es.length := by
  induction k with
  | zero => exact Nat.zero_le _
  | succ k ih =>
    have : cntS es (es.getD k (0, 0)).1 ≤ es.length := List.length_filter_le _ _
    unfold depS
    omega
set_option maxHeartbeats 4000000 in
theorem deepest_calls (A : Option Addr) (n c : Nat) (es : List (Int × Int)) (w : World) (hn : n = es.length) (hx : RdE w A es) (hl : n ≤ c) (hc : c ≤ 9223372036854775807) (hn40 : n ≤ 1000) :
    Calls Try.prog 56 #[.slice A n c] w fun e w' => ∃ p v L, e = .returned (.tuple #[.int .i64 p, v]) ∧ Sl w' v L ∧ L.length = depS es n ∧ Below w.heap.size w w' := by
  have HX := Lib.hid hx
  have HN := Lib.hid hn
  have CA : Hid (∀ x w1, Below w.heap.size w w1 → Calls Try.prog 99 #[.slice A n c, .int .i64 x] w1 fun e w' => ∃ A2 c2 L, e = .returned (.slice A2 (cntS es x) c2) ∧ (cntS es x ≤ c2 ∧ Sl w' (.slice A2 (cntS es x) c2) L ∧ L.length = cntS es x) ∧ Below w1.heap.size w1 w') := fun x w1 hb => by
    refine (at_calls A n c es x w1 hn (hx.below hb) hl hc hn40).mono ?_
    rintro e w' ⟨v, L, rfl, ho, hL, hb⟩
    obtain ⟨A2, n2, c2, rfl, e2, h1, h2, h3⟩ := ho.sl.parts
    have hs := ho.sl
    rw [← hL]
    subst e2
    exact ⟨A2, c2, L, rfl, ⟨h1, hs, rfl⟩, hb⟩
  clear hx hn
  go_enter Try.func56, Try.ntmps56
  go_wp2_with fail
  go_loopw [4, 5, 7, 8, 11] (fun v4 v5 _ _ v11 wr => DpI w es n v4 v5 v11 wr) (fun _ _ _ _ v11 _ => n - (intOf v11).toNat)
  case atStart => exact ⟨0, 0, [], rfl, Nat.zero_le _, rfl, ⟨none, 0, rfl, Nat.le_refl _, by omega, fun _ => rfl, fun h => absurd rfl h⟩, rfl, Below.refl _ _⟩
  case round =>
    obtain ⟨i, p, L, rfl, hi, rfl, HO, HL, HB⟩ := hrel
    obtain ⟨A5, n5, c5, e5, hn5, k1, k2, _⟩ := HO.out.parts
    subst e5
    rw [HL.out] at hn5
    obtain ⟨M, hM⟩ : ∃ M, M = depS es i := ⟨_, rfl⟩
    rw [← hM] at hn5 HL
    subst hn5
    have hMb : n5 ≤ 1000 := by rw [hM]; have := depS_le es i; have := HN.out; omega
    have HM := Lib.hid hM
    clear hM
    by_cases hlt : i < n
    · have hil : i < es.length := by have := HN.out; omega
      obtain ⟨b, o, rfl, hb, hc1, hc2⟩ := HX.out.at i hil
      have d1 := (HB.out.cell (p := ⟨b, o + i * 2, none⟩) hb).trans hc1
      have d2 := (HB.out.cell (p := ⟨b, o + i * 2 + 1, none⟩) hb).trans hc2
      obtain ⟨x, y, hpq⟩ : ∃ p q, es[i] = (p, q) := ⟨_, _, rfl⟩
      rw [hpq] at d1 d2
      simp only at d1 d2
      have HD : Hid (depS es (i + 1) = max n5 (cntS es x)) := by
        show max (depS es i) (cntS es (es.getD i (0, 0)).1) = _
        rw [← HM.out, List.getD_eq_getElem?_getD, List.getElem?_eq_getElem hil]
        show max n5 (cntS es es[i].1) = _
        rw [hpq]
      obtain ⟨W1, hW1⟩ : ∃ W1, W1 = wr.alloc (.cells #[.int .i64 x, .int .i64 y] 60) := ⟨_, rfl⟩
      obtain ⟨Q, hQ⟩ : ∃ Q, Q = wr.heap.size := ⟨_, rfl⟩
      have hQl : Q < W1.heap.size := by rw [hW1, hQ]; simp
      have hq0 : W1.cell? ⟨Q, 0, none⟩ = some (.int .i64 x) := by rw [hW1, hQ]; exact World.cell?_alloc_at _ _ _ _ rfl
      have hB1 : Below wr.heap.size wr W1 := by rw [hW1]; exact (Below.refl _ _).alloc (Nat.le_refl _) _
      have HB1 := Lib.hid (HB.out.trans (hB1.mono HB.out.size))
      have HO1 := Lib.hid (HO.out.below hB1)
      have HW1 := Lib.hid hW1
      have HQ := Lib.hid hQ
      obtain ⟨K, hK⟩ : ∃ K, K = cntS es x := ⟨_, rfl⟩
      have CX := Lib.hid (CA.out x W1 HB1.out)
      rw [← hK] at CX HD
      have hKb : K ≤ 1000 := by rw [hK]; have : cntS es x ≤ es.length := List.length_filter_le _ _; have := HN.out; omega
      clear hc1 hc2 hpq hW1 hB1 hK hQ
      go_upto_region 5 with fail
      have hW1 := HW1.out
      have hQ := HQ.out
      rw [← hW1, ← hQ]
      clear hW1 hQ d1 d2
      go_wp2_with fail
      refine CX.out.mono ?_
      rintro e w2 ⟨A2, c2, L2, rfl, ⟨j1, j2, j3⟩, hb2⟩
      have q0 := (hb2.cell (p := ⟨Q, 0, none⟩) hQl).trans hq0
      have HB2 := Lib.hid (HB1.out.trans (hb2.mono HB1.out.size))
      have HO2 := Lib.hid (HO1.out.below hb2)
      have HJ := Lib.hid (And.intro j2 j3)
      clear hb2 hq0 j2 j3 CX HB1 HO1
      rcases Nat.lt_trichotomy n5 K with h | h | h
      · have z1 : ((n5 : Int) < (K : Int)) := by omega
        go_wp2_with fail
        go_roundw
        case rel => exact ⟨i + 1, x, L2, by go_num, hlt, rfl, HJ.out.1, by show L2.length = _; rw [HD.out, HJ.out.2]; omega, HB2⟩
        case measure => simp [intOf]; omega
      · subst h
        by_cases hx : x < p
        · go_wp2_with fail
          go_roundw
          case rel => exact ⟨i + 1, x, L2, by go_num, hlt, rfl, HJ.out.1, by show L2.length = _; rw [HD.out, HJ.out.2]; omega, HB2⟩
          case measure => simp [intOf]; omega
        · go_wp2_with fail
          go_roundw
          case rel => exact ⟨i + 1, p, L, by go_num, hlt, rfl, HO2, by show L.length = _; rw [HD.out, HL.out]; omega, HB2⟩
          case measure => simp [intOf]; omega
      · have z1 : ¬ ((n5 : Int) < (K : Int)) := by omega
        have z2 : ¬ ((n5 : Int) = (K : Int)) := by omega
        have z3 : ¬ (n5 = K) := by omega
        have z4 : ¬ (K = n5) := by omega
        go_wp2_with fail
        go_roundw
        case rel => exact ⟨i + 1, p, L, by go_num, hlt, rfl, HO2, by show L.length = _; rw [HD.out, HL.out]; omega, HB2⟩
        case measure => simp [intOf]; omega
    · have hiE : i = n := by omega
      have HE : Hid (L.length = depS es n) := by show _ = _; rw [HL.out, HM.out, hiE]
      go_wp2_with fail
      go_ret2
      exact ⟨p, _, L, rfl, HO.out, HE.out, HB.out⟩
theorem depth_calls (A : Option Addr) (n c : Nat) (es : List (Int × Int)) (w : World) (hn : n = es.length) (hx : RdE w A es) (hl : n ≤ c) (hc : c ≤ 9223372036854775807) (ho : SpOk es) :
    Calls Try.prog 22 #[.slice A n c] w fun e w' => e = .returned (.tuple #[.int .i64 (depS es n : Nat), .int .i64 0]) ∧ Below w.heap.size w w' := by
  have C1 := Lib.hid (spcheck_calls A n c es w hn hx hl hc ho)
  have C2 : Hid (∀ w1, Below w.heap.size w w1 → Calls Try.prog 56 #[.slice A n c] w1 fun e w' => ∃ p A2 c2, e = .returned (.tuple #[.int .i64 p, .slice A2 (depS es n) c2]) ∧ Below w1.heap.size w1 w') := fun w1 hb => by
    refine (deepest_calls A n c es w1 hn (hx.below hb) hl hc (by have := ho.1; omega)).mono ?_
    rintro e w' ⟨p, v, L, rfl, hs, hL, hb⟩
    obtain ⟨A2, n2, c2, rfl, e2, _⟩ := hs.parts
    rw [← hL, ← e2]
    exact ⟨p, A2, c2, rfl, hb⟩
  clear hn hx hl hc ho
  go_enter Try.func22, Try.ntmps22
  go_wp2_with fail
  refine C1.out.mono ?_
  rintro e w1 ⟨rfl, hb⟩
  have HB := Lib.hid hb
  clear hb
  go_wp2_with fail
  refine (C2.out w1 HB.out).mono ?_
  rintro e w2 ⟨p, A2, c2, rfl, hb⟩
  have HB2 := Lib.hid (HB.out.trans (hb.mono HB.out.size))
  clear hb
  go_wp2_with fail
  go_ret2
  exact ⟨rfl, HB2.out⟩
end Go.Proofs.Ythnhmfmlhlpggaa
