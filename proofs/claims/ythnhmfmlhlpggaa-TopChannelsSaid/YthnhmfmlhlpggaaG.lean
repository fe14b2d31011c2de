/- What is proved: places and read. No condition beyond those in each statement. -/
import Derived.Test.YthnhmfmlhlpggaaF
namespace Go.Proofs.Ythnhmfmlhlpggaa
open Go.RowKit
set_option maxRecDepth 100000

/-- What places returns. -/
def PlR (w0 : World) (r : Option (List Int)) (e : Ending) (w' : World) : Prop :=
  Below w0.heap.size w0 w' ∧ match r with
  | none => e = .returned (.tuple #[.slice none 0 0, .bool false])
  | some pl => ∃ g c, e = .returned (.tuple #[.slice (some ⟨g, 0, none⟩) pl.length c, .bool true]) ∧ Arr w' w0.heap.size g c pl
theorem placesGo_cons (n : Int) (v : Int) (l : List Int) (p : Nat) (out : List Int) : placesGo n (v :: l) p out = if v < 0 ∨ n ≤ v ∨ 0 ≤ out.getD v.toNat 0 then none else placesGo n l (p + 1) (out.set v.toNat (p : Int)) := rfl
def PlaceI (w : World) (n m g : Nat) (xs : List Int) (q : Value) (wr : World) : Prop :=
  ∃ (p : Nat) (out : List Int), q = .int .i64 p ∧ p ≤ m ∧ Hid (placesF n xs = placesGo n (xs.drop p) p out) ∧ out.length = n ∧ Hid (Arr wr w.heap.size g n out) ∧ Hid (Below w.heap.size w wr)

set_option maxHeartbeats 2000000 in
theorem places_calls (n : Nat) (hn : 1 ≤ n ∧ n ≤ 8) (A : Option Addr) (m c : Nat) (xs : List Int) (w : World) (hm : m = xs.length) (hA : Rd w A xs) (_hl : m ≤ c) (_hc : c ≤ 9223372036854775807) :
    Calls Try.prog 94 #[.int .i64 n, .slice A m c] w (PlR w (placesF n xs)) := by
  by_cases hmn : m = n
  case neg =>
    have hne : ((m : Int) != (n : Int)) = true := by rw [bne_iff_ne]; omega
    have HR : Hid (placesF n xs = none) := by show _ = _; unfold placesF; rw [if_neg (by omega)]
    clear hm hA hmn
    go_enter Try.func94, Try.ntmps94
    go_wp2_with fail
    go_ret2
    rw [HR.out]
    exact ⟨Below.refl _ _, rfl⟩
  case pos =>
    subst hmn
    have hne : ((m : Int) != (m : Int)) = false := by simp
    have HM := Lib.hid hm
    have HA := Lib.hid hA
    have H0 : Hid (placesF m xs = placesGo m (xs.drop 0) 0 (List.replicate m (-1))) := by
      show _ = _; unfold placesF; rw [if_pos (by omega), hm]; rfl
    have HBx : Hid (Below w.heap.size w (w.alloc (.cells #[.int .i64 (-1)] 3))) := (Below.refl _ _).alloc (Nat.le_refl _) _
    have CR := Lib.hid (repeat_calls m hn w.heap.size (w.alloc (.cells #[.int .i64 (-1)] 3)) (by rw [World.cell?_alloc_at _ _ _ _ rfl]; rfl))
    clear hm hA
    go_enter Try.func94, Try.ntmps94
    go_wp2_with fail
    refine CR.out.mono ?_
    rintro e w1 ⟨g, rfl, hArr, hB⟩
    have HA1 : Hid (Arr w1 w.heap.size g m (List.replicate m (-1))) := ⟨hArr.1, by
      rcases hArr.2 with h | ⟨g', cap, cur, e', hb', h⟩
      · exact .inl h
      · exact .inr ⟨g', cap, cur, e', by simp at hb'; omega, h⟩⟩
    have HB := Lib.hid (HBx.out.trans (hB.mono (by simp)))
    clear hArr hB
    go_wp2_with fail
    go_loopw [18] (PlaceI w m m g xs) (fun q _ => m - (intOf q).toNat)
    case atStart => exact ⟨0, _, rfl, Nat.zero_le _, H0.out, by simp, HA1, HB⟩
    case round =>
      obtain ⟨p, out, rfl, hp, HG, hol, HAr, HBr⟩ := hrel
      by_cases hlt : p < m
      · have hpl : p < xs.length := by have := HM.out; omega
        obtain ⟨b, o, rfl, hb, hc1⟩ := HA.out.at p hpl
        have d1 := (HBr.out.cell (p := ⟨b, o + p, none⟩) hb).trans hc1
        obtain ⟨v, hv⟩ : ∃ v, v = xs[p] := ⟨_, rfl⟩
        rw [← hv] at d1
        have hstep : placesF m xs = if v < 0 ∨ (m : Int) ≤ v ∨ 0 ≤ out.getD v.toNat 0 then none else placesGo m (xs.drop (p + 1)) (p + 1) (out.set v.toNat (p : Int)) := by
          rw [HG.out, List.drop_eq_getElem_cons hpl, ← hv]; rfl
        clear hc1 hv
        by_cases h1 : v < 0
        · have HR : Hid (placesF m xs = none) := by show _ = _; rw [hstep, if_pos (.inl h1)]
          clear hstep
          go_wp2_with fail
          go_ret2
          rw [HR.out]
          exact ⟨HBr.out, rfl⟩
        · by_cases h2 : (m : Int) ≤ v
          · have HR : Hid (placesF m xs = none) := by show _ = _; rw [hstep, if_pos (.inr (.inl h2))]
            clear hstep
            go_wp2_with fail
            go_ret2
            rw [HR.out]
            exact ⟨HBr.out, rfl⟩
          · obtain ⟨u, rfl⟩ : ∃ u : Nat, v = u := ⟨v.toNat, by omega⟩
            have hum : u < m := by omega
            have hul : u < out.length := by omega
            have d2 := HAr.out.at u hul
            have d3 := HAr.out.free u
            obtain ⟨y, hy⟩ : ∃ y, y = out[u] := ⟨_, rfl⟩
            rw [← hy] at d2
            rw [Int.toNat_natCast, getD_lt _ () hul, ← hy] at hstep
            by_cases h3 : 0 ≤ y
            · have HR : Hid (placesF m xs = none) := by show _ = _; rw [hstep, if_pos (.inr (.inr h3))]
              clear hstep hy
              go_wp2_with fail
              go_ret2
              rw [HR.out]
              exact ⟨HBr.out, rfl⟩
            · have HR : Hid (placesF m xs = placesGo m (xs.drop (p + 1)) (p + 1) (out.set u (p : Int))) := by show _ = _; rw [hstep, if_neg (by omega)]
              have hset := HAr.out.set u (p : Int)
              have HS := Lib.hid hset
              clear hstep hy hset
              go_wp2_with fail
              go_roundw
              case rel => exact ⟨p + 1, _, by go_num, by omega, HR.out, by simp [hol], HS.out.1, HBr.out.trans HS.out.2⟩
              case measure => simp [intOf]; omega
      · have HR : Hid (placesF m xs = some out) := by
          show _ = _
          rw [HG.out, List.drop_of_length_le (by have := HM.out; omega)]; rfl
        have hol2 := Lib.hid hol
        clear hol
        go_wp2_with fail
        go_ret2
        rw [HR.out]
        exact ⟨HBr.out, g, m, by rw [hol2.out]; rfl, HAr.out⟩

/-- What read returns. -/
def ReadR (w0 : World) (n : Int) (es : List (Int × Int)) (o : List Int) (e : Ending) (w' : World) : Prop :=
  Below w0.heap.size w0 w' ∧
    if checkF n es ≠ 0 then e = .returned (.tuple #[.slice none 0 0, .int .i64 (checkF n es)]) else
      match placesF n o with
      | none => e = .returned (.tuple #[.slice none 0 0, .int .i64 2])
      | some pl => ∃ g c, e = .returned (.tuple #[.slice (some ⟨g, 0, none⟩) pl.length c, .int .i64 0]) ∧ Arr w' w0.heap.size g c pl
theorem check_val (n : Int) (es : List (Int × Int)) : (checkF n es = 0 ∧ es.length ≤ 30 ∧ (1 ≤ n ∧ n ≤ 8) ∧ es.any (badE n) = false) ∨ checkF n es = 1 ∨ checkF n es = 3 := by
  unfold checkF
  by_cases h1 : 30 < es.length
  · rw [if_pos h1]; exact .inr (.inr rfl)
  · rw [if_neg h1]
    by_cases h2 : n < 1 ∨ 8 < n
    · rw [if_pos h2]; exact .inr (.inl rfl)
    · rw [if_neg h2]
      cases h3 : es.any (badE n)
      · exact .inl ⟨rfl, by omega, by omega, rfl⟩
      · exact .inr (.inl rfl)
theorem Arr.weaken {w : World} {base base' g c : Nat} {xs : List Int} (h : Arr w base g c xs) (hb : base' ≤ base) : Arr w base' g c xs := ⟨h.1, by
  rcases h.2 with h | ⟨g', cap, cur, e', hb', h⟩
  · exact .inl h
  · exact .inr ⟨g', cap, cur, e', by omega, h⟩⟩

set_option maxHeartbeats 2000000 in
theorem read_calls (n : Int) (B : Option Addr) (ne ce : Nat) (es : List (Int × Int)) (A : Option Addr) (m c : Nat) (xs : List Int) (w : World) (hne : ne = es.length) (hB : RdE w B es) (hle : ne ≤ ce) (hce : ce ≤ 9223372036854775807) (hm : m = xs.length) (hA : Rd w A xs) (hl : m ≤ c) (hc : c ≤ 9223372036854775807) :
    Calls Try.prog 52 #[.int .i64 n, .slice B ne ce, .slice A m c] w (ReadR w n es xs) := by
  have CC := Lib.hid (check_calls B ne ce es n w hne hB hle hce)
  have HA := Lib.hid hA
  have HM := Lib.hid hm
  clear hne hB hm hA
  rcases check_val n es with ⟨hv, _, hn, _⟩ | hv
  · obtain ⟨q, rfl⟩ : ∃ q : Nat, n = q := ⟨n.toNat, by omega⟩
    have CP := Lib.hid (fun (W : World) (hb : Below w.heap.size w W) => places_calls q (by omega) A m c xs W HM.out (HA.out.below hb) hl hc)
    have HV := Lib.hid hv
    clear hv
    cases hpl : placesF q xs with
    | none =>
      have HP := Lib.hid hpl
      clear hpl
      go_enter Try.func52, Try.ntmps52
      go_wp2_with fail
      refine CC.out.mono ?_
      rw [HV.out]
      rintro e w1 ⟨rfl, hB⟩
      have HB := Lib.hid hB
      clear hB
      go_wp2_with fail
      refine (CP.out _ HB.out).mono ?_
      rw [HP.out]
      rintro e w2 ⟨hB2, rfl⟩
      have HB2 := Lib.hid (HB.out.trans (hB2.mono HB.out.size))
      clear hB2
      go_wp2_with fail
      go_ret2
      refine ⟨HB2.out, ?_⟩
      rw [HV.out, HP.out, if_neg (by simp)]
      rfl
    | some pl =>
      have HP := Lib.hid hpl
      clear hpl
      go_enter Try.func52, Try.ntmps52
      go_wp2_with fail
      refine CC.out.mono ?_
      rw [HV.out]
      rintro e w1 ⟨rfl, hB⟩
      have HB := Lib.hid hB
      clear hB
      go_wp2_with fail
      refine (CP.out _ HB.out).mono ?_
      rw [HP.out]
      rintro e w2 ⟨hB2, g, c', rfl, hArr⟩
      have HB2 := Lib.hid (HB.out.trans (hB2.mono HB.out.size))
      have HArr := Lib.hid (hArr.weaken HB.out.size)
      clear hB2 hArr
      go_wp2_with fail
      go_ret2
      refine ⟨HB2.out, ?_⟩
      rw [HV.out, HP.out, if_neg (by simp)]
      exact ⟨g, c', rfl, HArr.out⟩
  · obtain ⟨q, hq, hq0⟩ : ∃ q : Int, checkF n es = q ∧ (q = 1 ∨ q = 3) := ⟨_, rfl, hv⟩
    have HQ := Lib.hid hq
    clear hv hq
    rcases hq0 with rfl | rfl
    all_goals
      go_enter Try.func52, Try.ntmps52
      go_wp2_with fail
      refine CC.out.mono ?_
      rw [HQ.out]
      rintro e w1 ⟨rfl, hB⟩
      have HB := Lib.hid hB
      clear hB
      go_wp2_with fail
      go_ret2
      refine ⟨HB.out, ?_⟩
      rw [HQ.out, if_pos (by simp)]
      rfl
end Go.Proofs.Ythnhmfmlhlpggaa
