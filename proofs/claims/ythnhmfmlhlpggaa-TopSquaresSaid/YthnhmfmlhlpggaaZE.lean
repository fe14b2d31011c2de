/- What is proved: the first subset with a sum (contracts of functions of weigh, and what they need). No condition beyond those in each statement. -/
import Derived.Test.YthnhmfmlhlpggaaZD
namespace Go.Proofs.Ythnhmfmlhlpggaa
open Go.RowKit Go.Shelf Pt
set_option maxRecDepth 100000
attribute [local go_sem] Oper.semAt_some

theorem good45_calls (A : Option Addr) (n c bt : Nat) (s t : Int) (w : World) (h : w.cell? ⟨bt, 0, none⟩ = some (.int .i64 t)) :
    Calls Try.prog 45 #[.agg #[.slice A n c, .int .i64 s], .pointer (some ⟨bt, 0, none⟩)] w fun e w' => e = .returned (.bool (s == t)) ∧ Below w.heap.size w w' := by
  have h' : (w.alloc (.cells #[.slice A n c, .int .i64 s] 79)).cell? ⟨bt, 0, none⟩ = some (.int .i64 t) := (((Below.refl _ w).alloc (Nat.le_refl _) _).cell (p := ⟨bt, 0, none⟩) (cellB_lt h)).trans h
  go_enter Try.func45, Try.ntmps45
  go_wp2_with fail
  go_ret
  exact ⟨rfl, (Below.refl _ w).alloc (Nat.le_refl _) _⟩

/-- Cells of the search for the first. -/
structure FCells (N bt : Nat) (t : Int) (A : Option Addr) (n c : Nat) (s : Int) (b : Bool) (W : World) : Prop where
  f : W.cell? ⟨N, 0, none⟩ = some (.func (.func 45) #[] #[.pointer (some ⟨bt, 0, none⟩)])
  t : W.cell? ⟨bt, 0, none⟩ = some (.int .i64 t)
  x0 : W.cell? ⟨N + 1, 0, none⟩ = some (.slice A n c) ∧ W.frozen? ⟨N + 1, 0, none⟩ = false
  x1 : W.cell? ⟨N + 1, 1, none⟩ = some (.int .i64 s) ∧ W.frozen? ⟨N + 1, 1, none⟩ = false
  y : W.cell? ⟨N + 1 + 1, 0, none⟩ = some (.bool b) ∧ W.frozen? ⟨N + 1 + 1, 0, none⟩ = false
theorem FCells.kc {N bt : Nat} {t : Int} {A : Option Addr} {n c : Nat} {s : Int} {b : Bool} {W W' : World} (h : FCells N bt t A n c s b W) (hk : KC W W') : FCells N bt t A n c s b W' :=
  ⟨hk.cell h.f, hk.cell h.t, ⟨hk.cell h.x0.1, (hk.frozen h.x0.1).trans h.x0.2⟩, ⟨hk.cell h.x1.1, (hk.frozen h.x1.1).trans h.x1.2⟩, ⟨hk.cell h.y.1, (hk.frozen h.y.1).trans h.y.2⟩⟩

theorem cell_far {W : World} {b1 o1 b2 o2 : Nat} {v : Value} (h : b1 ≠ b2 ∨ o1 ≠ o2) : (W.setCell ⟨b1, o1, none⟩ v).cell? ⟨b2, o2, none⟩ = W.cell? ⟨b2, o2, none⟩ := by
  apply World.cell?_setCell_other
  intro e
  injection e with e1 e2
  omega
theorem FCells.store {N bt : Nat} {t : Int} {A A' : Option Addr} {n c n' c' : Nat} {s s' : Int} {b b' : Bool} {W : World} (h : FCells N bt t A n c s b W) (hb : bt ≠ N + 1 ∧ bt ≠ N + 1 + 1) :
    FCells N bt t A' n' c' s' b' (((W.setCell ⟨N + 1, 0, none⟩ (.slice A' n' c')).setCell ⟨N + 1, 1, none⟩ (.int .i64 s')).setCell ⟨N + 1 + 1, 0, none⟩ (.bool b')) := by
  refine ⟨?_, ?_, ⟨?_, ?_⟩, ⟨?_, ?_⟩, ⟨?_, ?_⟩⟩
  · rw [cell_far (.inl (by omega)), cell_far (.inl (by omega)), cell_far (.inl (by omega))]; exact h.f
  · rw [cell_far (.inl (by omega)), cell_far (.inl (by omega)), cell_far (.inl (by omega))]; exact h.t
  · rw [cell_far (.inl (by omega)), cell_far (.inr (by omega))]; exact World.cell?_setCell_same' _ _ _ (by rw [h.x0.1]; rfl)
  · rw [World.frozen?_setCell, World.frozen?_setCell, World.frozen?_setCell]; exact h.x0.2
  · rw [cell_far (.inl (by omega))]; exact World.cell?_setCell_same' _ _ _ (by rw [cell_far (.inr (by omega)), h.x1.1]; rfl)
  · rw [World.frozen?_setCell, World.frozen?_setCell, World.frozen?_setCell]; exact h.x1.2
  · exact World.cell?_setCell_same' _ _ _ (by rw [cell_far (.inl (by omega)), cell_far (.inl (by omega)), h.y.1]; rfl)
  · rw [World.frozen?_setCell, World.frozen?_setCell, World.frozen?_setCell]; exact h.y.2

def FsI (N bt : Nat) (t : Int) (done : List Sub) (W : World) : Prop := (∀ p ∈ done, (p.2 == t) = false) ∧ FCells N bt t none 0 0 0 false W
def FsIx (N bt : Nat) (t : Int) (q : List Sub) (W : World) : Prop :=
  ∃ pre xs s A n c, q = pre ++ [(xs, s)] ∧ (∀ p ∈ pre, (p.2 == t) = false) ∧ (s == t) = true ∧ n = xs.length ∧ n ≤ c ∧ c ≤ 9223372036854775807 ∧ Rd W A xs ∧ FCells N bt t A n c s true W

def subF (ws : List Int) (t : Int) : Option Sub := (subsL ws).find? (fun p => p.2 == t)
/-- The first, or none. -/
def FirstSub (w : World) (r : Option Sub) (e : Ending) (w' : World) : Prop :=
  match r with
  | none => e = .returned (.tuple #[.agg #[.slice none 0 0, .int .i64 0], .bool false]) ∧ Below w.heap.size w w'
  | some (xs, s) => ∃ A n c, e = .returned (.tuple #[.agg #[.slice A n c, .int .i64 s], .bool true]) ∧ n = xs.length ∧ n ≤ c ∧ c ≤ 9223372036854775807 ∧ Rd w' A xs ∧ Below w.heap.size w w'

set_option maxHeartbeats 2000000 in
theorem first43_calls (ws : List Int) (Aw : Option Addr) (m cw : Nat) (hm : m = ws.length) (hm12 : m ≤ 12) (hwl : m ≤ cw) (hwc : cw ≤ 9223372036854775807) (hwb : ∀ x ∈ ws, 0 ≤ x ∧ x ≤ 100000) (w : World) (hws : Rd w Aw ws) (t : Int) (b1 bt : Nat)
    (hc1 : w.cell? ⟨b1, 0, none⟩ = some (.slice Aw m cw)) (hct : w.cell? ⟨bt, 0, none⟩ = some (.int .i64 t)) :
    Calls Try.prog 43 #[.func (.func 86) #[] #[.pointer (some ⟨b1, 0, none⟩)], .func (.func 45) #[] #[.pointer (some ⟨bt, 0, none⟩)]] w (FirstSub w (subF ws t)) := by
  refine (callsIn_wide (n := 0)).1 ?_
  have HM := Lib.hid hm
  have HWS := Lib.hid hws
  have HWB := Lib.hid hwb
  clear hm hws hwb
  refine callsIn_of_wp_marks Try.func43 rfl trivial ?_ rfl
  simp only [Try.ntmps43, List.size_toArray, List.length_cons, List.length_nil, Nat.reduceAdd, Nat.reduceSub, Array.replicate_succ, Array.replicate_zero, List.push_toArray, List.append_toArray, List.nil_append, List.cons_append]
  gi_wp2_with fail
  obtain ⟨W0, hW0⟩ : ∃ W0, W0 = ((w.alloc (.cells #[.func (.func 45) #[] #[.pointer (some ⟨bt, 0, none⟩)]] 85)).alloc (.cells #[.slice none 0 0, .int .i64 0] 79)).alloc (.cells #[.bool false] 4) := ⟨_, rfl⟩
  have hBb : Below w.heap.size w W0 := by
    rw [hW0]; exact (((Below.refl _ _).alloc (Nat.le_refl _) _).alloc (by simp) _).alloc (by simp; omega) _
  have hF : FCells w.heap.size bt t none 0 0 0 false W0 := by
    rw [hW0]
    refine ⟨by go_simp, ?_, ⟨by go_simp, by go_simp⟩, ⟨by go_simp, by go_simp⟩, ⟨by go_simp, by go_simp⟩⟩
    rw [← hW0]; exact (hBb.cell (p := ⟨bt, 0, none⟩) (cellB_lt hct)).trans hct
  have hsz : W0.heap.size = w.heap.size + 3 := by rw [hW0]; simp
  rw [← hW0]
  clear hW0
  have hbt0 := cellB_lt hct
  have hbt : bt ≠ w.heap.size + 1 := by have := hbt0; simp at this; omega
  have hbt' : bt ≠ w.heap.size + 1 + 1 := by have := hbt0; simp at this; omega
  clear hbt0
  refine range86 ws Aw m cw HM.out hm12 hwl hwc HWB.out (fun _ => False) w ⟨HWS.out, fun _ _ _ h => h⟩ rfl rfl ((hBb.cell (p := ⟨b1, 0, none⟩) (cellB_lt hc1)).trans hc1) (Off.of_below hBb) (fun k => k = w.heap.size + 1 ∨ k = w.heap.size + 1 + 1) (fun k hk => ⟨.inr (by omega), by omega⟩)
    (FsI w.heap.size bt t) (FsIx w.heap.size bt t) (fun s W W' h hk => ⟨h.1, h.2.kc hk⟩)
    (fun s W W' h hk => by
      obtain ⟨pre, xs, s, A, n, c, h1, h2, h3, h4, h5, h6, h7, h8⟩ := h
      exact ⟨pre, xs, s, A, n, c, h1, h2, h3, h4, h5, h6, h7.kc hk, h8.kc hk⟩)
    ⟨fun _ h => absurd h (by simp), hF⟩ ?body ?done ?stop
  case body =>
    rintro l done xs s A n c W ⟨hdn, hF⟩ _ hn hA hnc hc hB
    have hsw : w.heap.size + 1 + 1 < W.heap.size := cellB_lt hF.y.1
    have HDN := Lib.hid hdn
    have HN := Lib.hid hn
    have HA := Lib.hid hA
    have HF0 := Lib.hid hF
    clear hn hA hc1 hct hdn hF
    have hb1 : Below W.heap.size W (W.alloc (.cells #[.slice A n c, .int .i64 s] 79)) := (Below.refl _ _).alloc (Nat.le_refl _) _
    have HOA : Hid (Off (fun k => k = w.heap.size + 1 ∨ k = w.heap.size + 1 + 1) W (W.alloc (.cells #[.slice A n c, .int .i64 s] 79))) := Off.of_below hb1
    have HF1 := Lib.hid (HF0.out.kc (KC.of_below hb1))
    have hn0 : (W.alloc (.cells #[.slice A n c, .int .i64 s] 79)).cell? ⟨W.heap.size, 0, none⟩ = some (.slice A n c) := by go_simp
    have hn1 : (W.alloc (.cells #[.slice A n c, .int .i64 s] 79)).cell? ⟨W.heap.size, 1, none⟩ = some (.int .i64 s) := by go_simp
    have HRD := Lib.hid (HA.out.1.below hb1)
    have HNA := Lib.hid HA.out.2
    clear hb1
    gi_wp2_with fail
    refine ⟨HOA.out, ?_⟩
    intro W' hk
    have k0 := hk.cell hn0
    have k1 := hk.cell hn1
    have HF := Lib.hid (HF1.out.kc hk)
    have HRD2 := Lib.hid (HRD.out.kc hk)
    have kf := HF.out.f
    have hsz' : W.heap.size < W'.heap.size := cellB_lt k0
    clear hn0 hn1 HF1 hk
    gi_wp2_with fail
    refine ⟨trivial, rfl, ?_⟩
    refine (CallsIn.inRound l (callsIn_wide.2 (good45_calls _ _ _ _ _ _ _ HF.out.t))).mono ?_
    rintro e W2 ⟨rfl, hb2⟩
    have HB2 := Lib.hid hb2
    have HF2 := Lib.hid (HF.out.kc (KC.of_below hb2))
    have j0 := (hb2.cell (p := ⟨W.heap.size, 0, none⟩) hsz').trans k0
    have j1 := (hb2.cell (p := ⟨W.heap.size, 1, none⟩) hsz').trans k1
    have HRD3 := Lib.hid (HRD2.out.below hb2)
    clear hb2
    cases hst : (s == t)
    · have HST := Lib.hid hst
      clear hst
      gi_wp2_with fail
      refine ⟨⟨fun p hp => ?_, HF2.out⟩, Off.of_below HB2.out⟩
      rcases List.mem_append.1 hp with hp | hp
      · exact HDN.out p hp
      · rw [List.mem_singleton] at hp; subst hp; exact HST.out
    · have HST := Lib.hid hst
      have g0 := HF2.out.x0.1
      have g1 := HF2.out.x1.1
      have g2 := HF2.out.y.1
      have g3 := HF2.out.x0.2
      have g4 := HF2.out.x1.2
      have g5 := HF2.out.y.2
      clear hst
      gi_wp2_with fail
      have hO : Off (fun k => k = w.heap.size + 1 ∨ k = w.heap.size + 1 + 1) W2 (((W2.setCell ⟨w.heap.size + 1, 0, none⟩ (.slice A n c)).setCell ⟨w.heap.size + 1, 1, none⟩ (.int .i64 s)).setCell ⟨w.heap.size + 1 + 1, 0, none⟩ (.bool true)) :=
        ((Off.setCell _ (.inl rfl)).trans (Off.setCell _ (.inl rfl))).trans (Off.setCell _ (.inr rfl))
      refine ⟨⟨done, xs, s, A, n, c, rfl, HDN.out, HST.out, HN.out, hnc, hc, ?_, HF2.out.store ⟨hbt, hbt'⟩⟩, (Off.of_below HB2.out).trans hO⟩
      exact (RdM.off ⟨HRD3.out, HNA.out⟩ hO).1
  case done =>
    rintro D W hDle ⟨hnil, hF⟩ hB hD
    have HB := Lib.hid hB.none
    have HNIL := Lib.hid hnil
    have HF := Lib.hid hF
    have g0 := HF.out.x0.1
    have g1 := HF.out.x1.1
    have g2 := HF.out.y.1
    have g3 := HF.out.x0.2
    have g4 := HF.out.x1.2
    have g5 := HF.out.y.2
    clear hB hnil hF hc1 hct
    have hsw : w.heap.size + 1 + 1 < W.heap.size := cellB_lt g2
    have HBA := Lib.hid ((Below.refl W.heap.size W).alloc (Nat.le_refl _) (.cells #[.slice none 0 0, .int .i64 0] 79))
    have k0 := (HBA.out.cell (p := ⟨w.heap.size + 1, 0, none⟩) (by simp; omega)).trans g0
    have k1 := (HBA.out.cell (p := ⟨w.heap.size + 1, 1, none⟩) (by simp; omega)).trans g1
    have k2 := (HBA.out.cell (p := ⟨w.heap.size + 1 + 1, 0, none⟩) hsw).trans g2
    have k3 := (HBA.out.frozen (p := ⟨w.heap.size + 1, 0, none⟩) (by simp; omega)).trans g3
    have k4 := (HBA.out.frozen (p := ⟨w.heap.size + 1, 1, none⟩) (by simp; omega)).trans g4
    have k5 := (HBA.out.frozen (p := ⟨w.heap.size + 1 + 1, 0, none⟩) hsw).trans g5
    gi_wp2_with fail
    obtain ⟨W2, hW2⟩ : ∃ W2, W2 = (((W.alloc (.cells #[.slice none 0 0, .int .i64 0] 79)).setCell ⟨w.heap.size + 1, 0, none⟩ (.slice none 0 0)).setCell ⟨w.heap.size + 1, 1, none⟩ (.int .i64 0)).setCell ⟨w.heap.size + 1 + 1, 0, none⟩ (.bool false) := ⟨_, rfl⟩
    have hF2 : FCells w.heap.size bt t none 0 0 0 false W2 := by rw [hW2]; exact (HF.out.kc (KC.of_below HBA.out)).store ⟨hbt, hbt'⟩
    have hD2 : W2.heap[D]? = some (.deferred (some [])) := by
      rw [hW2]; exact (KeepsOthers.setCell _ _ _).same D _ ((KeepsOthers.setCell _ _ _).same D _ ((KeepsOthers.setCell _ _ _).same D _ ((HBA.out.block D (Array.getElem?_eq_some_iff.1 hD).1).trans hD) rfl) rfl) rfl
    have hB2 : Below w.heap.size w W2 := by
      rw [hW2]; exact (((HB.out.trans (HBA.out.mono HB.out.size)).setCell (p := ⟨w.heap.size + 1, 0, none⟩) (by simp) _).setCell (p := ⟨w.heap.size + 1, 1, none⟩) (by simp) _).setCell (p := ⟨w.heap.size + 1 + 1, 0, none⟩) (by simp; omega) _
    rw [← hW2]
    have hkc := KC.putObj (.deferred none) hD2 rfl
    have c0 := hkc.cell hF2.x0.1
    have c1 := hkc.cell hF2.x1.1
    have c2 := hkc.cell hF2.y.1
    refine ⟨by simp, .inl ⟨_, _, rfl, run_takeDeferred hD2, ?_⟩⟩
    refine ⟨.tuple #[.agg #[.slice none 0 0, .int .i64 0], .bool false], ?_, ?_⟩
    · clear hW2 k0 k1 k2 k3 k4 k5 g0 g1 g2 g3 g4 g5
      simp [results, Try.results43, go_sem, c0, c1, c2]
    · have hl : subF ws t = none := by
        unfold subF
        exact List.find?_eq_none.2 (fun p hp => by simpa using HNIL.out p hp)
      rw [hl]
      exact ⟨rfl, hB2.trans ((Off.putObj (M := fun k => k = D) _ rfl).below hB2.size (fun k hk => by have := hBb.size; omega))⟩
  case stop =>
    rintro D q W hDle hq ⟨pre, xs, s, A, n, c, rfl, hpre, hst, hn, hnc, hc, hA, hF⟩ hB hD
    have HB := Lib.hid hB.none
    have HQ := Lib.hid hq
    have HPRE := Lib.hid hpre
    have HST := Lib.hid hst
    have HA := Lib.hid hA
    have HN := Lib.hid hn
    have HF := Lib.hid hF
    clear hB hq hA hn hpre hst hF hc1 hct
    gi_wp2_with fail
    have hkc := KC.putObj (.deferred none) hD rfl
    have c0 := hkc.cell HF.out.x0.1
    have c1 := hkc.cell HF.out.x1.1
    have c2 := hkc.cell HF.out.y.1
    refine ⟨by simp, .inl ⟨_, _, rfl, run_takeDeferred hD, ?_⟩⟩
    refine ⟨.tuple #[.agg #[.slice A n c, .int .i64 s], .bool true], ?_, ?_⟩
    · simp [results, Try.results43, go_sem, c0, c1, c2]
    · have hl : subF ws t = some (xs, s) := by
        obtain ⟨u, hu⟩ := HQ.out
        unfold subF
        rw [← hu, List.append_assoc, List.find?_append, List.find?_eq_none.2 (fun p hp => by simpa using HPRE.out p hp)]
        simp [HST.out]
      rw [hl]
      refine ⟨A, n, c, rfl, HN.out, hnc, hc, HA.out.kc hkc, HB.out.trans ((Off.putObj (M := fun k => k = D) _ rfl).below HB.out.size (fun k hk => by have := hBb.size; omega))⟩
end Go.Proofs.Ythnhmfmlhlpggaa
