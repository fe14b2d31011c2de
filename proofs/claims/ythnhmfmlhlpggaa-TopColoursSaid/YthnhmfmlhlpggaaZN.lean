/- What is proved: Proper of the reference, on a colouring that is proper; the number of a pair. No condition beyond those in each statement. -/
import Derived.Test.YthnhmfmlhlpggaaZM
namespace Go.Proofs.Ythnhmfmlhlpggaa
open Go.RowKit Kn
set_option maxRecDepth 100000

/-- No two edges of one number have a vertex in common. -/
def Prop10 (es : List (Int × Int)) (l : List Int) : Prop := ∀ i j, i < es.length → j < i → l.getD i 0 = l.getD j 0 → eA es i ≠ eA es j ∧ eB es i ≠ eB es j

set_option maxHeartbeats 4000000 in
theorem proper10_calls (es : List (Int × Int)) (l : List Int) (A B : Option Addr) (m c k d : Nat) (hm : m = es.length) (hl : m ≤ c) (hc : c ≤ 9223372036854775807) (hk : k = l.length) (hkm : k = m) (_hd : k ≤ d) (_hd2 : d ≤ 9223372036854775807) (hok : Prop10 es l) (w : World) (hA : RdE w A es) (hB : Rd w B l) :
    Calls Try.prog 10 #[.slice A m c, .slice B k d] w fun e w' => e = .returned (.bool true) ∧ Below w.heap.size w w' := by
  have HM := Lib.hid hm
  have HK := Lib.hid hk
  have HA := Lib.hid hA
  have HB := Lib.hid hB
  have HOK := Lib.hid hok
  clear hm hk hA hB hok
  subst hkm
  go_enter Try.func10, Try.ntmps10
  go_wp2_with fail
  go_loopw [5] (fun v wr => ∃ i : Nat, v = .int .i64 i ∧ i ≤ k ∧ Hid (Below w.heap.size w wr)) (fun v _ => k - (intOf v).toNat)
  case atStart => exact ⟨0, rfl, Nat.zero_le _, Below.refl _ _⟩
  case round =>
    obtain ⟨i, rfl, hi, HBI⟩ := hrel
    by_cases hik : i < k
    · go_wp2_with fail
      go_loopw [6] (fun v wr => ∃ j : Nat, v = .int .i64 j ∧ j ≤ i ∧ Hid (Below w.heap.size w wr)) (fun v _ => i - (intOf v).toNat)
      case atStart => exact ⟨0, rfl, Nat.zero_le _, HBI.out⟩
      case round =>
        obtain ⟨j, rfl, hj, HBJ⟩ := hrel
        by_cases hji : j < i
        · have him : i < es.length := by have := HM.out; omega
          have hil : i < l.length := by have := HK.out; omega
          have hjm : j < es.length := by omega
          have hjl : j < l.length := by omega
          obtain ⟨b, o, rfl, hb, hdx, hdy⟩ := (HA.out.below HBJ.out).at j hjm
          obtain ⟨bb, oo, e, hbb, hcx, hcy⟩ := (HA.out.below HBJ.out).at i him
          cases e
          obtain ⟨b2, o2, rfl, hb2, hdl⟩ := (HB.out.below HBJ.out).at j hjl
          obtain ⟨bb2, oo2, e, hbb2, hci⟩ := (HB.out.below HBJ.out).at i hil
          cases e
          have HPP : Hid (l[i] = l[j] → es[i].1 ≠ es[j].1 ∧ es[i].2 ≠ es[j].2) := fun h => by
            have := HOK.out i j him hji (by rw [getD_lt (0 : Int) () hil, getD_lt (0 : Int) () hjl, h])
            rw [eA_at him, eA_at hjm, eB_at him, eB_at hjm] at this
            exact this
          obtain ⟨xj, hxj⟩ : ∃ z, z = es[j].1 := ⟨_, rfl⟩
          obtain ⟨yj, hyj⟩ : ∃ z, z = es[j].2 := ⟨_, rfl⟩
          obtain ⟨lj, hlj⟩ : ∃ z, z = l[j] := ⟨_, rfl⟩
          obtain ⟨xi, hxi⟩ : ∃ z, z = es[i].1 := ⟨_, rfl⟩
          obtain ⟨yi, hyi⟩ : ∃ z, z = es[i].2 := ⟨_, rfl⟩
          obtain ⟨li, hli⟩ : ∃ z, z = l[i] := ⟨_, rfl⟩
          rw [← hxj, ← hyj, ← hlj, ← hxi, ← hyi, ← hli] at HPP
          rw [← hxj] at hdx
          rw [← hyj] at hdy
          rw [← hlj] at hdl
          rw [← hxi] at hcx
          rw [← hyi] at hcy
          rw [← hli] at hci
          clear hxj hyj hlj hxi hyi hli hb hb2 hbb hbb2
          have i0 : (0 : Int) ≤ (j : Int) := by omega
          have i1 : (j : Int) < (k : Int) := by omega
          have i2 : (0 : Int) ≤ (i : Int) := by omega
          have i3 : (i : Int) < (k : Int) := by omega
          cases h1 : (li == lj)
          · go_wp2_with fail
            go_quiet (fail)
            go_wp2_with fail
            go_roundw
            case rel => exact ⟨j + 1, by go_num, by omega, below_drewN HBJ.out _⟩
            case measure => simp [intOf]; omega
          · have hpp := HPP.out (by simpa using h1)
            have h2 : (xi == xj) = false := by rw [beq_eq_false_iff_ne]; exact hpp.1
            have h3 : (yi == yj) = false := by rw [beq_eq_false_iff_ne]; exact hpp.2
            clear hpp
            go_wp2_with fail
            go_quiet (fail)
            go_wp2_with fail
            go_roundw
            case rel => exact ⟨j + 1, by go_num, by omega, below_drewN HBJ.out _⟩
            case measure => simp [intOf]; omega
        · have he : j = i := by omega
          subst he
          go_wp2_with fail
          go_roundw
          case rel => exact ⟨j + 1, by go_num, by omega, HBJ.out⟩
          case measure => simp [intOf]; omega
    · go_wp2_with fail
      go_ret
      exact ⟨rfl, HBI.out⟩
end Go.Proofs.Ythnhmfmlhlpggaa
