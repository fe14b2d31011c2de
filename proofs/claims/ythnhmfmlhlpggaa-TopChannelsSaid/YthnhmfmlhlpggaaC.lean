/- What is proved: Has and Perm. No condition beyond those in each statement. -/
import Derived.Test.YthnhmfmlhlpggaaB
namespace Go.Proofs.Ythnhmfmlhlpggaa
open Go.RowKit
set_option maxRecDepth 100000

theorem Rd.take {w : World} {A : Option Addr} {xs : List Int} (h : Rd w A xs) (k : Nat) : Rd w A (xs.take k) := fun hne => by
  obtain ⟨b, o, e, hb, hcl⟩ := h (fun h => by subst h; simp at hne)
  exact ⟨b, o, e, hb, fun i hi => by
    have hi' : i < xs.length := by rw [List.length_take] at hi; omega
    rw [hcl i hi', List.getElem_take]⟩

theorem has_calls (A : Option Addr) (n c : Nat) (xs : List Int) (v : Int) (w : World) (hn : n = xs.length) (hA : Rd w A xs) (hl : n ≤ c) (hc : c ≤ 9223372036854775807) :
    Calls Try.prog 51 #[.slice A n c, .int .i64 v] w fun e w' => e = .returned (.bool (xs.any fun u => u == v)) ∧ w = w' := by
  have HN := Lib.hid hn
  have HA := Lib.hid hA
  clear hn hA
  have hnn : (n : Int) ≤ 9223372036854775807 := by omega
  go_enter Try.func51, Try.ntmps51
  go_wp2_with fail
  go_loop [5] (fun q => ∃ i : Nat, q = .int .i64 i ∧ i ≤ n ∧ Hid (((xs.take i).any fun u => u == v) = false)) (fun q => n - (intOf q).toNat)
  case atStart => exact ⟨0, rfl, Nat.zero_le _, rfl⟩
  case round =>
    obtain ⟨i, rfl, hi, HG⟩ := hrel
    by_cases hlt : i < n
    · have hil : i < xs.length := by have := HN.out; omega
      obtain ⟨b, o, rfl, hb, hcell⟩ := HA.out.at i hil
      cases q : (xs[i]'hil == v)
      · have HQ := Lib.hid q
        go_wp2_with fail
        go_round
        case rel => exact ⟨i + 1, by go_num, by omega, any_take_succ (p := fun u => u == v) hil HG.out HQ.out⟩
        case measure => simp [intOf]; omega
      · have HQ := Lib.hid q
        go_wp2_with fail
        go_ret
        exact ⟨ret_bool (any_at (p := fun u => u == v) hil HQ.out).symm, rfl⟩
    · have HE : Hid ((xs.any fun u => u == v) = false) := by have := HG.out; rwa [show i = xs.length by have := HN.out; omega, List.take_length] at this
      go_wp2_with fail
      go_ret
      exact ⟨ret_bool HE.out.symm, rfl⟩

/-- The elements so far are numbers below n, each once. -/
def permTo (n : Int) (xs : List Int) (k : Nat) : Bool := (List.range k).all fun i => inB (xs.getD i 0) 0 (n - 1) && !((xs.take i).any fun u => u == xs.getD i 0)
theorem permTo_succ (n : Int) (xs : List Int) (k : Nat) : permTo n xs (k + 1) = (permTo n xs k && (inB (xs.getD k 0) 0 (n - 1) && !((xs.take k).any fun u => u == xs.getD k 0))) := by
  unfold permTo
  rw [List.range_succ, List.all_append]; simp
def permB (n : Int) (xs : List Int) : Bool := permTo n xs xs.length && decide ((xs.length : Int) = n)
theorem permTo_mono (n : Int) (xs : List Int) (k m : Nat) (h : k ≤ m) (hf : permTo n xs k = false) : permTo n xs m = false := by
  unfold permTo at *
  rw [List.all_eq_false] at *
  obtain ⟨x, hx, hx2⟩ := hf
  exact ⟨x, by rw [List.mem_range] at *; omega, hx2⟩

def PermI (w : World) (n : Int) (xs : List Int) (m : Nat) (q : Value) (wr : World) : Prop := ∃ i : Nat, q = .int .i64 i ∧ i ≤ m ∧ Hid (permTo n xs i = true) ∧ Hid (Below w.heap.size w wr)
set_option maxHeartbeats 1000000 in
theorem perm_calls (A : Option Addr) (m c : Nat) (xs : List Int) (n : Int) (w : World) (hn : m = xs.length) (hA : Rd w A xs) (hl : m ≤ c) (hc : c ≤ 9223372036854775807) (hnr : -1000 ≤ n ∧ n ≤ 1000) :
    Calls Try.prog 18 #[.int .i64 n, .slice A m c] w fun e w' => e = .returned (.bool (permB n xs)) ∧ Below w.heap.size w w' := by
  have HN := Lib.hid hn
  have HA := Lib.hid hA
  clear hn hA
  have hnn : (m : Int) ≤ 9223372036854775807 := by omega
  go_enter Try.func18, Try.ntmps18
  go_wp2_with fail
  go_loopw [5] (PermI w n xs m) (fun q _ => m - (intOf q).toNat)
  case atStart => exact ⟨0, rfl, Nat.zero_le _, rfl, Below.refl _ _⟩
  case round =>
    obtain ⟨i, rfl, hi, HG, HB⟩ := hrel
    by_cases hlt : i < m
    · have hil : i < xs.length := by have := HN.out; omega
      obtain ⟨b, o, rfl, hb, hcell⟩ := HA.out.at i hil
      have d1 := (HB.out.cell (p := ⟨b, o + i, none⟩) hb).trans hcell
      obtain ⟨v, hv⟩ : ∃ v, v = xs[i] := ⟨_, rfl⟩
      have HV : Hid (xs.getD i 0 = v) := by show _ = _; rw [hv]; exact getD_lt _ () hil
      rw [← hv] at d1
      clear hcell hv
      have b1 : (0 : Int) ≤ i ∧ (i : Int) < m := by omega
      have b2 : (0 : Int) ≤ i ∧ (i : Int) ≤ c := by omega
      have w1 : IntKind.i64.wrap (i : Int) = i := IntWalk.i64_in _ (by omega)
      have w2 : IntKind.i64.wrap (n - 1) = n - 1 := IntWalk.i64_in _ (by omega)
      have CI := Lib.hid (fun (j : Nat) => Calls.quiet_of_same (w := wr) (n := j) ((in_calls v 0 (n - 1) (wr.drewN j)).mono fun e w' h => ⟨h.1, h.2.symm⟩))
      have CH := Lib.hid (fun (j : Nat) => Calls.quiet_of_same (w := wr) (n := j) ((has_calls (some ⟨b, o, none⟩) i c (xs.take i) v (wr.drewN j) (by rw [List.length_take]; omega) ((HA.out.below (below_drewN HB.out j)).take i) (by omega) hc).mono fun e w' h => ⟨h.1, h.2.symm⟩))
      cases q1 : inB v 0 (n - 1)
      · have HQ1 := Lib.hid q1
        rw [q1] at CI
        clear q1
        have HK : Hid (permTo n xs (i + 1) = false) := by show _ = _; rw [permTo_succ, HV.out, HQ1.out]; simp
        go_wp2_with fail
        go_quiet ((go_at_call 15; (with_reducible exact CI.out _)))
        clear w1 w2 d1
        go_wp2_with fail
        go_ret
        refine ⟨ret_bool ?_, below_drewN HB.out _⟩
        unfold permB
        rw [permTo_mono n xs (i + 1) xs.length (by omega) HK.out]; rfl
      · have HQ1 := Lib.hid q1
        rw [q1] at CI
        clear q1
        cases q2 : ((xs.take i).any fun u => u == v)
        · have HK : Hid (permTo n xs (i + 1) = true) := by show _ = _; rw [permTo_succ, HV.out, HQ1.out, HG.out, q2]; rfl
          rw [q2] at CH
          clear q2
          go_wp2_with fail
          go_quiet (first | (go_at_call 15; (with_reducible exact CI.out _)) | (go_at_call 51; (with_reducible exact CH.out _)))
          clear w1 w2 d1
          go_wp2_with fail
          go_simp
          go_roundw
          case rel => exact ⟨i + 1, by go_num, by omega, HK.out, below_drewN HB.out _⟩
          case measure => simp [intOf]; omega
        · have HK : Hid (permTo n xs (i + 1) = false) := by show _ = _; rw [permTo_succ, HV.out, HQ1.out, q2]; simp
          rw [q2] at CH
          clear q2
          go_wp2_with fail
          go_quiet (first | (go_at_call 15; (with_reducible exact CI.out _)) | (go_at_call 51; (with_reducible exact CH.out _)))
          clear w1 w2 d1
          go_wp2_with fail
          go_ret
          refine ⟨ret_bool ?_, below_drewN HB.out _⟩
          unfold permB
          rw [permTo_mono n xs (i + 1) xs.length (by omega) HK.out]; rfl
    · have HE : Hid (permB n xs = decide ((m : Int) = n)) := by
        show _ = _
        have := HG.out
        rw [show i = xs.length by have := HN.out; omega] at this
        unfold permB
        rw [this, HN.out]; rfl
      go_wp2_with fail
      go_ret
      exact ⟨ret_bool (by rw [HE.out]; rfl), HB.out⟩
end Go.Proofs.Ythnhmfmlhlpggaa
