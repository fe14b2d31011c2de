/- What is proved: the subsets that weigh.extend yields (contracts of functions of weigh, and what they need). No condition beyond those in each statement. -/
import Derived.Test.YthnhmfmlhlpggaaPtH
import Derived.Test.YthnhmfmlhlpggaaZB
namespace Go.Proofs.Ythnhmfmlhlpggaa
open Go.RowKit Go.Shelf Pt
set_option maxRecDepth 100000
attribute [local go_sem] Oper.semAt_some

/-- The subsets that go on with one by indices from ws.length - f on. -/
def sbR (ws : List Int) : Nat → List Int → Int → List (List Int × Int)
  | 0, _, _ => []
  | f + 1, l, s =>
    ((l ++ [((ws.length - (f + 1) : Nat) : Int)], s + ws.getD (ws.length - (f + 1)) 0) :: sbR ws f (l ++ [((ws.length - (f + 1) : Nat) : Int)]) (s + ws.getD (ws.length - (f + 1)) 0)) ++ sbR ws f l s
theorem sbR_step (ws : List Int) (x : Nat) (hx : x < ws.length) (l : List Int) (s : Int) : sbR ws (ws.length - x) l s = ((l ++ [(x : Int)], s + ws.getD x 0) :: sbR ws (ws.length - (x + 1)) (l ++ [(x : Int)]) (s + ws.getD x 0)) ++ sbR ws (ws.length - (x + 1)) l s := by
  obtain ⟨f, hf⟩ : ∃ f, ws.length - x = f + 1 := ⟨ws.length - x - 1, by omega⟩
  rw [hf, sbR, show ws.length - (f + 1) = x by omega, show ws.length - (x + 1) = f by omega]

/-- Where to go on. -/
def Fr (cs : List Int) (fr : Nat) : Prop := (cs = [] ∧ fr = 0) ∨ ∃ (y : Nat) (h : cs.length - 1 < cs.length), cs[cs.length - 1] = (y : Int) ∧ fr = y + 1
theorem Fr.app (cs : List Int) (x : Nat) : Fr (cs ++ [(x : Int)]) (x + 1) := .inr ⟨x, by simp, by simp, rfl⟩

abbrev Sub := List Int × Int

/-- Three cells hold three values. -/
structure C3 (a0 : Addr) (v0 : Value) (a1 : Addr) (v1 : Value) (a2 : Addr) (v2 : Value) (w : World) : Prop where
  c0 : w.cell? a0 = some v0
  c1 : w.cell? a1 = some v1
  c2 : w.cell? a2 = some v2
theorem cellB_lt {w : World} {a : Addr} {v : Value} (h : w.cell? a = some v) : a.block < w.heap.size := by
  unfold World.cell? at h
  split at h
  · rename_i h1; exact (Array.getElem?_eq_some_iff.1 h1).1
  · exact absurd h (by simp)
theorem C3.below {a0 a1 a2 : Addr} {v0 v1 v2 : Value} {w w' : World} (h : C3 a0 v0 a1 v1 a2 v2 w) (hb : Below w.heap.size w w') : C3 a0 v0 a1 v1 a2 v2 w' :=
  ⟨(hb.cell (p := a0) (cellB_lt h.c0)).trans h.c0, (hb.cell (p := a1) (cellB_lt h.c1)).trans h.c1, (hb.cell (p := a2) (cellB_lt h.c2)).trans h.c2⟩

theorem C3.off {a0 a1 a2 : Addr} {v0 v1 v2 : Value} {M : Nat → Prop} {w w' : World} (h : C3 a0 v0 a1 v1 a2 v2 w) (hb : Off M w w') (h0 : ¬ M a0.block) (h1 : ¬ M a1.block) (h2 : ¬ M a2.block) : C3 a0 v0 a1 v1 a2 v2 w' :=
  ⟨(World.cell?_of_block (hb.block _ (cellB_lt h.c0) h0)).trans h.c0, (World.cell?_of_block (hb.block _ (cellB_lt h.c1) h1)).trans h.c1, (World.cell?_of_block (hb.block _ (cellB_lt h.c2) h2)).trans h.c2⟩
theorem Below.drew_alloc (w : World) (o : Obj) : Below w.heap.size w (w.drew.alloc o) := ⟨rfl, rfl, rfl, by simp, fun k hk => (Below.heap_alloc w.drew o k (by simpa using hk))⟩
/-- append as a step of a region of open order, inside a fence. -/
theorem step_appIn {F : Fence} {n : Nat} {P : Program} {W : World} {ops : Array Oper} {o : Oper} {a : Act} {K : Act → World → Prop} {Q : Exit → Act → World → Prop} {E : Prop} (hgd : o.guard = none) (s x : Operand) (t ty : TypeId)
    (ho : o.op = .call { callee := .builtin .append, args := #[s, x], argTypes := #[t, t] }) (hty : o.type = ty) (v1 v2 : Value) (hs : a.eval s = v1) (hx : a.eval x = v2) {v' : Value} {w' : World}
    (hrun : (Builtin.append_ #[t, t] ty #[v1, v2]).run P W = .ok v' w') (hK : K (a.put o.dst v') w') :
    if Region.wanted o (yielded ops a.tmps) = true then Oper.wpIn F n P o a W K Q else E := by
  have hw : Region.wanted o (yielded ops a.tmps) = true := by simp [Region.wanted, hgd]
  rw [if_pos hw]
  unfold Oper.wpIn
  refine ⟨?_, ?_⟩
  · simp [Oper.about, ho, resolve, Target.leads, Sem.run_pure]
  · rw [Oper.semAt_plain F _ _ (by rw [ho]; intro c hc'; cases hc')]
    simp [execOp, ho, hty, resolve, invoke, builtin, hs, hx, hrun, Result.andThen]
    exact hK

def ExI (ws : List Int) (f : Nat) (cs : List Int) (s : Int) (done : List Sub) (J : List Sub → World → Prop) (M : Nat → Prop) (W0 : World) (n m : Nat) (v : Value) (wr : World) : Prop :=
  ∃ x : Nat, v = .int .i64 x ∧ x ≤ m ∧ Hid (n ≤ x ∧ s ≤ 100000 * x ∧ m - x ≤ f) ∧ Hid (∃ pre, sbR ws f cs s = pre ++ sbR ws (m - x) cs s ∧ J (done ++ (cs, s) :: pre) wr) ∧ Hid (Off M W0 wr)

set_option maxHeartbeats 2000000 in
theorem extend87_in (ws : List Int) (Aw : Option Addr) (m cw : Nat) (hm : m = ws.length) (hm12 : m ≤ 12) (_hwl : m ≤ cw) (_hwc : cw ≤ 9223372036854775807) (hwb : ∀ x ∈ ws, 0 ≤ x ∧ x ≤ 100000) (M0 : Nat → Prop) (w0 : World) (hws : RdM M0 w0 Aw ws)
    (l : Nat) (M : Nat → Prop) (N1 : Nat) (hM : ∀ k, M k → (M0 k ∨ w0.heap.size ≤ k) ∧ k < N1) (_hN1 : w0.heap.size ≤ N1)
    (J Jx : List Sub → World → Prop) (hJ : ∀ s W W', J s W → Below W.heap.size W W' → J s W') (all : List Sub)
    (hY : ∀ done xs s A n c W, J done W → (done ++ [(xs, s)]) <+: all → n = xs.length → RdM M W A xs → n ≤ c → c ≤ 9223372036854775807 → Off M0 w0 W → N1 ≤ W.heap.size →
      YieldAt Fence.wide 0 Try.prog l #[.agg #[.slice A n c, .int .i64 s]] W fun e W' => (e = .returned (.bool true) ∧ J (done ++ [(xs, s)]) W' ∧ Off M W W') ∨ (e = .returned (.bool false) ∧ Jx (done ++ [(xs, s)]) W' ∧ Off M W W')) (f : Nat) :
    ∀ (fr : Nat) (cs : List Int) (s : Int) (A : Option Addr) (n c : Nat) (done : List Sub) (W : World), n = cs.length → m = fr + f → n ≤ fr → Fr cs fr → (0 ≤ s ∧ s ≤ 100000 * fr) → J done W → (done ++ (cs, s) :: sbR ws f cs s) <+: all → RdM M W A cs → (A = none → cs = []) → n ≤ c → c ≤ 9223372036854775807 →
      Off M0 w0 W → N1 ≤ W.heap.size →
      CallsIn Fence.wide 0 Try.prog 87 #[.slice Aw m cw, .agg #[.slice A n c, .int .i64 s], .func (.yield l) #[] #[]] W fun e W' =>
        (e = .returned (.bool true) ∧ J (done ++ (cs, s) :: sbR ws f cs s) W' ∧ Off M W W') ∨ (e = .returned (.bool false) ∧ ∃ q, q <+: (cs, s) :: sbR ws f cs s ∧ Jx (done ++ q) W' ∧ Off M W W') := by
  induction f using Nat.strongRecOn with
  | ind f ih =>
    intro fr cs s A n c done W hn hmf hn12 hfr hs hJ0 hall hA hA0 hl hc hB hN
    have hb1 : Below W.heap.size W (W.alloc (.cells #[.slice A n c, .int .i64 s] 79)) := (Below.refl _ _).alloc (Nat.le_refl _) _
    have HY := Lib.hid (hY done cs s A n c (W.alloc (.cells #[.slice A n c, .int .i64 s] 79)) (hJ _ _ _ hJ0 hb1) (List.IsPrefix.trans ⟨sbR ws f cs s, by simp⟩ hall) hn (hA.off (Off.of_below hb1)) hl hc (hB.then (Off.of_below (M := fun _ => False) hb1) (fun _ h => h.elim)) (by simp; omega))
    have HIH := Lib.hid ih
    have HJ0 := Lib.hid hJ0
    have HN := Lib.hid hn
    have HM := Lib.hid hm
    have HMF := Lib.hid hmf
    have HA := Lib.hid hA
    have HA0 := Lib.hid hA0
    have HALL := Lib.hid hall
    have HFR := Lib.hid hfr
    have HWB := Lib.hid hwb
    have HWS := Lib.hid hws
    have HB1 := Lib.hid hb1
    clear ih hn hm hmf hall hA hA0 hfr hwb hY hws hJ0 hb1
    obtain ⟨fn, tmps, assign, body, hy, hR⟩ := HY.out
    refine callsIn_of_wp Try.func87 rfl trivial ?_ rfl
    simp only [Try.ntmps87, List.size_toArray, List.length_cons, List.length_nil, Nat.reduceAdd, Nat.reduceSub, Array.replicate_succ, Array.replicate_zero, List.push_toArray, List.append_toArray, List.nil_append, List.cons_append]
    gi_wp2_with fail
    refine ⟨rfl, ?_⟩
    refine hR.mono ?_
    have hbx : ¬ M W.heap.size := fun h => by have := (hM _ h).2; omega
    rintro e W2 (⟨rfl, hJ2, hO2⟩ | ⟨rfl, hX, hO2⟩)
    rotate_left
    · have HX := Lib.hid hX
      have HO2 : Hid (Off M W W2) := (Off.of_below HB1.out).trans hO2
      clear hX hO2
      gi_wp2_with fail
      go_ret
      exact .inr ⟨rfl, [(cs, s)], ⟨sbR ws f cs s, by simp⟩, HX.out, HO2.out⟩
    have e0 : W2.cell? ⟨W.heap.size, 0, none⟩ = some (.slice A n c) := (World.cell?_of_block (hO2.block W.heap.size (by simp) hbx)).trans (by go_simp)
    have e1 : W2.cell? ⟨W.heap.size, 1, none⟩ = some (.int .i64 s) := (World.cell?_of_block (hO2.block W.heap.size (by simp) hbx)).trans (by go_simp)
    have HJ2 := Lib.hid hJ2
    have HO2 := Lib.hid hO2
    clear hJ2 hO2
    have hfr := HFR.out
    have HBX := Lib.hid hbx
    have hn' := HN.out
    clear hbx hy hR HY HJ0
    have hfm : fr ≤ 12 := by have := HMF.out; omega
    obtain ⟨hs0, hs1⟩ := hs
    rcases hfr with ⟨hc0, rfl⟩ | ⟨y, hyl, hy, rfl⟩
    · have HC0 := Lib.hid hc0
      have hn0 : n = 0 := by rw [hn', hc0]; rfl
      clear hc0 hn'
      subst hn0
      gi_wp2_with fail
      gi_loopw [8] (ExI ws f cs s done J M (W.alloc (.cells #[.slice A 0 c, .int .i64 s] 79)) 0 m) (fun v _ => m - (intOf v).toNat)
      case atStart => exact ⟨0, rfl, Nat.zero_le _, ⟨Nat.le_refl _, hs1, by have := HMF.out; omega⟩, ⟨[], by rw [show m - 0 = f by have := HMF.out; omega]; rfl, HJ2.out⟩, HO2.out⟩
      case round =>
        obtain ⟨x, rfl, hx, ⟨hnx, hsx, hfx⟩, ⟨pre, hpre, hJr⟩, HO⟩ := hrel
        have HPRE := Lib.hid hpre
        have HJR := Lib.hid hJr
        clear hpre hJr
        by_cases hlt : x < m
        · have hxl : x < ws.length := by have := HM.out; omega
          have HOW : Hid (Off M W wr) := (Off.of_below HB1.out).trans HO.out
          have HOB : Hid (Off M0 w0 wr) := hB.then HOW.out (fun k hk => (hM k hk).1)
          obtain ⟨bw, ow, rfl, hbw, hcw⟩ := (HWS.out.off HOB.out).1.at x hxl
          have HZ : Hid (ws.getD x 0 = ws[x]'hxl) := by show _ = _; rw [List.getD_eq_getElem?_getD, List.getElem?_eq_getElem hxl]; rfl
          have hz := HWB.out _ (List.getElem_mem hxl)
          obtain ⟨z, hzz⟩ : ∃ z, z = ws[x]'hxl := ⟨_, rfl⟩
          rw [← hzz] at hcw hz
          have HZZ := Lib.hid hzz
          clear hzz
          obtain ⟨hz0, hz1⟩ := hz
          have hRA := HA.out.off HOW.out
          have d0 : wr.cell? ⟨W.heap.size, 0, none⟩ = some (.slice A 0 c) := (World.cell?_of_block (HO.out.block W.heap.size (by simp) HBX.out)).trans (by go_simp)
          have d1 : wr.cell? ⟨W.heap.size, 1, none⟩ = some (.int .i64 s) := (World.cell?_of_block (HO.out.block W.heap.size (by simp) HBX.out)).trans (by go_simp)
          have hH : C3 ⟨W.heap.size, 0, none⟩ (.slice A 0 c) ⟨W.heap.size, 1, none⟩ (.int .i64 s) ⟨bw, ow + x, none⟩ (.int .i64 z) wr.drew := ⟨d0, d1, hcw⟩
          have hsz : s + z ≤ 100000 * (x + 1) := by omega
          have hx12 : x < 12 := by omega
          have hwsz : IntKind.i64.wrap (s + z) = s + z := IntWalk.i64_in _ (by omega)
          have hRd1 : Rd (wr.drew.alloc (.cells #[.int .i64 x] 3)) A cs := hRA.1.below (Below.drew_alloc wr _)
          obtain ⟨v', w2, hrun, hown, hbel⟩ := app_run (wr.drew.alloc (.cells #[.int .i64 x] 3)) A cs [(x : Int)] hRd1 HA0.out (some ⟨wr.heap.size, 0, none⟩) 1 (rd_one _ _ _ rfl) (by simp) (by have := HN.out; simp; omega)
          rw [← HN.out] at hrun
          simp only [List.length_singleton] at hrun
          have hown' := hown
          obtain ⟨A', c', rfl, h1, h2, h3, h4⟩ := hown.sl
          have hAM : ∀ a, A' = some a → wr.heap.size ≤ a.block := by
            rintro a rfl
            rcases hown'.2 with ⟨e, _⟩ | ⟨g', cap, cur, e, hg, _⟩
            · cases e
            · cases e; simp at hg; show wr.heap.size ≤ g'; omega
          rw [List.length_append, ← HN.out, List.length_singleton] at hrun h1
          have hwr := HO.out.size
          simp at hwr
          have HRM : Hid (RdM M w2 A' (cs ++ [(x : Int)])) := ⟨h4, fun _ a ha hMa => by have := (hM _ hMa).2; have := hAM a ha; omega⟩
          have HB2 : Hid (Below wr.heap.size wr w2) := ((Below.drew_alloc wr (.cells #[.int .i64 x] 3))).trans (hbel.mono (by simp))
          have HH2 := Lib.hid (hH.below (w' := w2) (((Below.refl _ _).alloc (Nat.le_refl _) _).trans (hbel.mono (by simp))))
          have HH1 := Lib.hid (hH.below (w' := wr.drew.alloc (.cells #[.int .i64 x] 3)) ((Below.refl _ _).alloc (Nat.le_refl _) _))
          have HO2 : Hid (Off M (W.alloc (.cells #[.slice A 0 c, .int .i64 s] 79)) w2) := HO.out.trans (Off.of_below HB2.out)
          have HA'0 : Hid (A' = none → cs ++ [(x : Int)] = []) := fun e => by
            subst e
            obtain ⟨b, o, e, _⟩ := h4 (by simp)
            cases e
          have HSTEP : Hid (sbR ws f cs s = pre ++ (((cs ++ [(x : Int)], s + z) :: sbR ws (m - (x + 1)) (cs ++ [(x : Int)]) (s + z)) ++ sbR ws (m - (x + 1)) cs s)) := by
            show _ = _
            rw [HPRE.out, HM.out, sbR_step ws x hxl, HZ.out, ← HZZ.out]
          have HREC := Lib.hid (HIH.out (m - (x + 1)) (by omega) (x + 1) (cs ++ [(x : Int)]) (s + z) A' (0 + 1) c' (done ++ (cs, s) :: pre) w2 (by rw [List.length_append, ← HN.out]; rfl) (by omega) (by omega) (Fr.app cs x) ⟨by omega, by omega⟩
            (hJ _ _ _ HJR.out (HB2.out))
            (by refine List.IsPrefix.trans ?_ HALL.out; rw [HSTEP.out]; exact ⟨sbR ws (m - (x + 1)) cs s, by simp⟩) HRM.out HA'0.out h1 h2 (hB.then (((Off.of_below HB1.out).trans HO2.out)) (fun k hk => (hM k hk).1)) (by have := HO2.out.size; simp at this; omega))
          have HRUN := Lib.hid hrun
          have HNX : Hid (0 ≤ x ∧ s ≤ 100000 * (x : Int)) := ⟨hnx, hsx⟩
          have HMW : Hid (¬ M bw) := fun h => by
            obtain ⟨b', o', e, hlt', _⟩ := HWS.out.1 (fun e => by rw [e] at hxl; exact absurd hxl (by simp))
            cases e
            rcases (hM _ h).1 with h' | h'
            · exact HWS.out.2 (fun e => by rw [e] at hxl; exact absurd hxl (by simp)) _ rfl h'
            · omega
          clear hRA hRd1 hown hown' h4 hAM hbel h3 hrun hnx hsx d0 d1 hcw
          gi_wp2_with fail
          refine wpIn_region_held (C3 ⟨W.heap.size, 0, none⟩ (.slice A 0 c) ⟨W.heap.size, 1, none⟩ (.int .i64 s) ⟨bw, ow + x, none⟩ (.int .i64 z)) (by kernel_rfl) ?_
          change wpAnyInH _ _ _ _ _ _ _ _ _ _ (World.drew wr)
          refine wpAnyInH_take (i := 0) (v := ?_) rfl rfl (by kernel_rfl) (by kernel_rfl) (by kernel_rfl) (fun _ _ _ h => h) ⟨Or.inl ⟨by rfl, ?_⟩, fun _ => rfl⟩ (by assumption) ?_
          rotate_left
          · intro w hSw
            have k0 := hSw.c0
            have k1 := hSw.c1
            have k2 := hSw.c2
            clear hSw
            go_simp
            try with_reducible rfl
          refine wpAnyInH_take (i := 1) (v := ?_) rfl rfl (by kernel_rfl) (by kernel_rfl) (by kernel_rfl) (fun _ _ _ h => h) ⟨Or.inl ⟨by rfl, ?_⟩, fun _ => rfl⟩ (by assumption) ?_
          rotate_left
          · intro w hSw
            have k0 := hSw.c0
            have k1 := hSw.c1
            have k2 := hSw.c2
            clear hSw
            go_simp
            try with_reducible rfl
          refine wpAnyInH_take (i := 2) (v := ?_) rfl rfl (by kernel_rfl) (by kernel_rfl) (by kernel_rfl) (fun _ _ _ h => h) ⟨Or.inl ⟨by rfl, ?_⟩, fun _ => rfl⟩ (by assumption) ?_
          rotate_left
          · intro w hSw
            have k0 := hSw.c0
            have k1 := hSw.c1
            have k2 := hSw.c2
            clear hSw
            go_simp
            try with_reducible rfl
          refine wpAnyInH_take (i := 4) (v := ?_) rfl rfl (by kernel_rfl) (by kernel_rfl) (by kernel_rfl) (fun _ _ _ h => h) ⟨Or.inl ⟨by rfl, ?_⟩, fun _ => rfl⟩ (by assumption) ?_
          rotate_left
          · intro w hSw
            have k0 := hSw.c0
            have k1 := hSw.c1
            have k2 := hSw.c2
            clear hSw
            go_simp
            try with_reducible rfl
          refine wpAnyInH_take (i := 7) (v := ?_) rfl rfl (by kernel_rfl) (by kernel_rfl) (by kernel_rfl) (fun _ _ _ h => h) ⟨Or.inl ⟨by rfl, ?_⟩, fun _ => rfl⟩ (by assumption) ?_
          rotate_left
          · intro w hSw
            have k0 := hSw.c0
            have k1 := hSw.c1
            have k2 := hSw.c2
            clear hSw
            go_simp
            try with_reducible rfl
          refine wpAnyInH_take (i := 8) (v := ?_) rfl rfl (by kernel_rfl) (by kernel_rfl) (by kernel_rfl) (fun _ _ _ h => h) ⟨Or.inl ⟨by rfl, ?_⟩, fun _ => rfl⟩ (by assumption) ?_
          rotate_left
          · intro w hSw
            have k0 := hSw.c0
            have k1 := hSw.c1
            have k2 := hSw.c2
            clear hSw
            go_simp
            try with_reducible rfl
          refine wpAnyInH_take (i := 9) (v := ?_) rfl rfl (by kernel_rfl) (by kernel_rfl) (by kernel_rfl) (fun _ _ _ h => h) ⟨Or.inl ⟨by rfl, ?_⟩, fun _ => rfl⟩ (by assumption) ?_
          rotate_left
          · intro w hSw
            have k0 := hSw.c0
            have k1 := hSw.c1
            have k2 := hSw.c2
            clear hSw
            go_simp
            try with_reducible rfl
          refine wpAnyInH_take (i := 10) (v := ?_) rfl rfl (by kernel_rfl) (by kernel_rfl) (by kernel_rfl) (fun _ _ _ h => h) ⟨Or.inl ⟨by rfl, ?_⟩, fun _ => rfl⟩ (by assumption) ?_
          rotate_left
          · intro w hSw
            have k0 := hSw.c0
            have k1 := hSw.c1
            have k2 := hSw.c2
            clear hSw
            go_simp
            try with_reducible rfl
          refine wpAnyInH_take (i := 11) (v := ?_) rfl rfl (by kernel_rfl) (by kernel_rfl) (by kernel_rfl) (fun _ _ _ h => h) ⟨Or.inl ⟨by rfl, ?_⟩, fun _ => rfl⟩ (by assumption) ?_
          rotate_left
          · intro w hSw
            have k0 := hSw.c0
            have k1 := hSw.c1
            have k2 := hSw.c2
            clear hSw
            go_simp
            try with_reducible rfl
          refine wpAnyInH_take (i := 12) (v := ?_) rfl rfl (by kernel_rfl) (by kernel_rfl) (by kernel_rfl) (fun _ _ _ h => h) ⟨Or.inl ⟨by rfl, ?_⟩, fun _ => rfl⟩ (by assumption) ?_
          rotate_left
          · intro w hSw
            have k0 := hSw.c0
            have k1 := hSw.c1
            have k2 := hSw.c2
            clear hSw
            go_simp
            try with_reducible rfl
          refine wpAnyInH_take (i := 13) (v := ?_) rfl rfl (by kernel_rfl) (by kernel_rfl) (by kernel_rfl) (fun _ _ _ h => h) ⟨Or.inl ⟨by rfl, ?_⟩, fun _ => rfl⟩ (by assumption) ?_
          rotate_left
          · intro w hSw
            have k0 := hSw.c0
            have k1 := hSw.c1
            have k2 := hSw.c2
            clear hSw
            go_simp
            try with_reducible rfl
          refine wpAnyInH_take (i := 15) (v := ?_) rfl rfl (by kernel_rfl) (by kernel_rfl) (by kernel_rfl) (fun _ _ _ h => h) ⟨Or.inl ⟨by rfl, ?_⟩, fun _ => rfl⟩ (by assumption) ?_
          rotate_left
          · intro w hSw
            have k0 := hSw.c0
            have k1 := hSw.c1
            have k2 := hSw.c2
            clear hSw
            go_simp
            try with_reducible rfl
          refine wpAnyInH_ready (rs := [3, 5]) (by kernel_rfl) (by simp) (AllReadyInH.cons rfl (fun K hK => ?_) (AllReadyInH.cons rfl (fun K hK => ?_) AllReadyInH.nil))
          · have HK := Lib.hid hK
            clear hK
            go_simp
            refine ⟨trivial, rfl, (callsIn_wide.2 (clip_calls _ _ _ _ hl)).mono ?_⟩
            rintro e w1 ⟨rfl, rfl⟩
            refine HK.out _ _ ⟨hH, ?_⟩
            clear HK
            try simp only [Act.put, List.setIfInBounds_toArray, List.set_cons_zero, List.set_cons_succ]
            refine wpAnyInH_ready (rs := [5]) (by kernel_rfl) (by simp) (AllReadyInH.cons rfl ?_ AllReadyInH.nil)
            intro K hK
            have HK := Lib.hid hK
            clear hK
            go_simp
            refine HK.out _ _ ⟨HH1.out, ?_⟩
            clear HK
            try simp only [Act.put, List.setIfInBounds_toArray, List.set_cons_zero, List.set_cons_succ]
            refine wpAnyInH_ready (rs := [6]) (by kernel_rfl) (by simp) (AllReadyInH.cons rfl ?_ AllReadyInH.nil)
            intro K hK
            have HK := Lib.hid hK
            clear hK
            refine step_appIn rfl (.tmp 36) (.tmp 38) 27 27 rfl rfl _ _ rfl rfl HRUN.out ?_
            refine HK.out _ _ ⟨HH2.out, ?_⟩
            clear HK
            have hH2 := HH2.out
            refine wpAnyInH_take (i := 14) (v := ?_) rfl rfl (by kernel_rfl) (by kernel_rfl) (by kernel_rfl) (fun _ _ _ h => h) ⟨Or.inl ⟨by rfl, ?_⟩, fun _ => rfl⟩ (by assumption) ?_
            rotate_left
            · intro w hSw
              have k0 := hSw.c0
              have k1 := hSw.c1
              have k2 := hSw.c2
              clear hSw
              go_simp
              try with_reducible rfl
            refine wpAnyInH_ready (rs := [16]) (by kernel_rfl) (by simp) (AllReadyInH.cons rfl ?_ AllReadyInH.nil)
            intro K hK
            have HK := Lib.hid hK
            clear hK
            go_simp
            refine ⟨trivial, rfl, HREC.out.mono ?_⟩
            rintro e W4 (⟨rfl, hJ4, hO4⟩ | ⟨rfl, q, hq, hX, hO4⟩)
            · have HJ4 := Lib.hid hJ4
              have HO4 := Lib.hid hO4
              clear hJ4 hO4
              have hH4 := hH2.off HO4.out HBX.out HBX.out HMW.out
              refine HK.out _ _ ⟨hH4, ?_⟩
              clear HK
              try simp only [Act.put, List.setIfInBounds_toArray, List.set_cons_zero, List.set_cons_succ]
              refine wpAnyInH_take (i := 17) (v := ?_) rfl rfl (by kernel_rfl) (by kernel_rfl) (by kernel_rfl) (fun _ _ _ h => h) ⟨Or.inl ⟨by rfl, ?_⟩, fun _ => rfl⟩ (by assumption) ?_
              rotate_left
              · intro w hSw
                have k0 := hSw.c0
                have k1 := hSw.c1
                have k2 := hSw.c2
                clear hSw
                go_simp
                try with_reducible rfl
              refine wpAnyInH_done (by kernel_rfl) ?_ _
              gi_wp2_with fail
              go_roundw
              case rel =>
                refine ⟨x + 1, by go_num, by omega, ⟨by have := HNX.out; omega, by have := HNX.out; omega, by omega⟩, ⟨pre ++ (cs ++ [(x : Int)], s + z) :: sbR ws (m - (x + 1)) (cs ++ [(x : Int)]) (s + z), ?_, ?_⟩, HO2.out.trans HO4.out⟩
                · rw [HSTEP.out, List.append_assoc]
                · have := HJ4.out
                  rw [List.append_assoc] at this
                  exact this
              case measure => simp [intOf]; omega
            · have HX := Lib.hid hX
              have HQ := Lib.hid hq
              have HO4 := Lib.hid hO4
              clear hX hq hO4
              have hH4 := hH2.off HO4.out HBX.out HBX.out HMW.out
              refine HK.out _ _ ⟨hH4, ?_⟩
              clear HK
              try simp only [Act.put, List.setIfInBounds_toArray, List.set_cons_zero, List.set_cons_succ]
              refine wpAnyInH_take (i := 17) (v := ?_) rfl rfl (by kernel_rfl) (by kernel_rfl) (by kernel_rfl) (fun _ _ _ h => h) ⟨Or.inl ⟨by rfl, ?_⟩, fun _ => rfl⟩ (by assumption) ?_
              rotate_left
              · intro w hSw
                have k0 := hSw.c0
                have k1 := hSw.c1
                have k2 := hSw.c2
                clear hSw
                go_simp
                try with_reducible rfl
              refine wpAnyInH_done (by kernel_rfl) ?_ _
              gi_wp2_with fail
              go_ret
              refine .inr ⟨rfl, (cs, s) :: (pre ++ q), ?_, ?_, ((Off.of_below HB1.out).trans HO2.out).trans HO4.out⟩
              · rw [HSTEP.out]
                obtain ⟨t, ht⟩ := HQ.out
                exact ⟨t ++ sbR ws (m - (x + 1)) cs s, by rw [← ht]; simp⟩
              · have := HX.out
                rw [List.append_assoc] at this
                exact this
          · have HK := Lib.hid hK
            clear hK
            go_simp
            refine HK.out _ _ ⟨HH1.out, ?_⟩
            clear HK
            try simp only [Act.put, List.setIfInBounds_toArray, List.set_cons_zero, List.set_cons_succ]
            refine wpAnyInH_ready (rs := [3]) (by kernel_rfl) (by simp) (AllReadyInH.cons rfl ?_ AllReadyInH.nil)
            intro K hK
            have HK := Lib.hid hK
            clear hK
            go_simp
            refine ⟨trivial, rfl, (callsIn_wide.2 (clip_calls _ _ _ _ hl)).mono ?_⟩
            rintro e w1 ⟨rfl, rfl⟩
            refine HK.out _ _ ⟨HH1.out, ?_⟩
            clear HK
            try simp only [Act.put, List.setIfInBounds_toArray, List.set_cons_zero, List.set_cons_succ]
            refine wpAnyInH_ready (rs := [6]) (by kernel_rfl) (by simp) (AllReadyInH.cons rfl ?_ AllReadyInH.nil)
            intro K hK
            have HK := Lib.hid hK
            clear hK
            refine step_appIn rfl (.tmp 36) (.tmp 38) 27 27 rfl rfl _ _ rfl rfl HRUN.out ?_
            refine HK.out _ _ ⟨HH2.out, ?_⟩
            clear HK
            have hH2 := HH2.out
            refine wpAnyInH_take (i := 14) (v := ?_) rfl rfl (by kernel_rfl) (by kernel_rfl) (by kernel_rfl) (fun _ _ _ h => h) ⟨Or.inl ⟨by rfl, ?_⟩, fun _ => rfl⟩ (by assumption) ?_
            rotate_left
            · intro w hSw
              have k0 := hSw.c0
              have k1 := hSw.c1
              have k2 := hSw.c2
              clear hSw
              go_simp
              try with_reducible rfl
            refine wpAnyInH_ready (rs := [16]) (by kernel_rfl) (by simp) (AllReadyInH.cons rfl ?_ AllReadyInH.nil)
            intro K hK
            have HK := Lib.hid hK
            clear hK
            go_simp
            refine ⟨trivial, rfl, HREC.out.mono ?_⟩
            rintro e W4 (⟨rfl, hJ4, hO4⟩ | ⟨rfl, q, hq, hX, hO4⟩)
            · have HJ4 := Lib.hid hJ4
              have HO4 := Lib.hid hO4
              clear hJ4 hO4
              have hH4 := hH2.off HO4.out HBX.out HBX.out HMW.out
              refine HK.out _ _ ⟨hH4, ?_⟩
              clear HK
              try simp only [Act.put, List.setIfInBounds_toArray, List.set_cons_zero, List.set_cons_succ]
              refine wpAnyInH_take (i := 17) (v := ?_) rfl rfl (by kernel_rfl) (by kernel_rfl) (by kernel_rfl) (fun _ _ _ h => h) ⟨Or.inl ⟨by rfl, ?_⟩, fun _ => rfl⟩ (by assumption) ?_
              rotate_left
              · intro w hSw
                have k0 := hSw.c0
                have k1 := hSw.c1
                have k2 := hSw.c2
                clear hSw
                go_simp
                try with_reducible rfl
              refine wpAnyInH_done (by kernel_rfl) ?_ _
              gi_wp2_with fail
              go_roundw
              case rel =>
                refine ⟨x + 1, by go_num, by omega, ⟨by have := HNX.out; omega, by have := HNX.out; omega, by omega⟩, ⟨pre ++ (cs ++ [(x : Int)], s + z) :: sbR ws (m - (x + 1)) (cs ++ [(x : Int)]) (s + z), ?_, ?_⟩, HO2.out.trans HO4.out⟩
                · rw [HSTEP.out, List.append_assoc]
                · have := HJ4.out
                  rw [List.append_assoc] at this
                  exact this
              case measure => simp [intOf]; omega
            · have HX := Lib.hid hX
              have HQ := Lib.hid hq
              have HO4 := Lib.hid hO4
              clear hX hq hO4
              have hH4 := hH2.off HO4.out HBX.out HBX.out HMW.out
              refine HK.out _ _ ⟨hH4, ?_⟩
              clear HK
              try simp only [Act.put, List.setIfInBounds_toArray, List.set_cons_zero, List.set_cons_succ]
              refine wpAnyInH_take (i := 17) (v := ?_) rfl rfl (by kernel_rfl) (by kernel_rfl) (by kernel_rfl) (fun _ _ _ h => h) ⟨Or.inl ⟨by rfl, ?_⟩, fun _ => rfl⟩ (by assumption) ?_
              rotate_left
              · intro w hSw
                have k0 := hSw.c0
                have k1 := hSw.c1
                have k2 := hSw.c2
                clear hSw
                go_simp
                try with_reducible rfl
              refine wpAnyInH_done (by kernel_rfl) ?_ _
              gi_wp2_with fail
              go_ret
              refine .inr ⟨rfl, (cs, s) :: (pre ++ q), ?_, ?_, ((Off.of_below HB1.out).trans HO2.out).trans HO4.out⟩
              · rw [HSTEP.out]
                obtain ⟨t, ht⟩ := HQ.out
                exact ⟨t ++ sbR ws (m - (x + 1)) cs s, by rw [← ht]; simp⟩
              · have := HX.out
                rw [List.append_assoc] at this
                exact this
        · gi_wp2_with fail
          go_ret
          refine .inl ⟨rfl, ?_, (Off.of_below HB1.out).trans HO.out⟩
          have := HPRE.out
          rw [show m - x = 0 by omega, sbR, List.append_nil] at this
          rw [this]; exact HJR.out
    · have hn1 : n = (n - 1) + 1 := by omega
      obtain ⟨b, o, rfl, hb, hcell⟩ := (HA.out.off ((Off.of_below HB1.out).trans HO2.out)).1.at (cs.length - 1) hyl
      have hcell' : W2.cell? ⟨b, o + (n - 1), none⟩ = some (.int .i64 y) := by rw [hn', ← hy]; exact hcell
      generalize n - 1 = k at hn1 hcell'
      clear hcell hn' hyl hy
      subst hn1
      gi_wp2_with fail
      gi_loopw [8] (ExI ws f cs s done J M (W.alloc (.cells #[.slice (some ⟨b, o, none⟩) (k + 1) c, .int .i64 s] 79)) (k + 1) m) (fun v _ => m - (intOf v).toNat)
      case atStart => exact ⟨y + 1, by go_num, by have := HMF.out; omega, ⟨hn12, hs1, by have := HMF.out; omega⟩, ⟨[], by rw [show m - (y + 1) = f by have := HMF.out; omega]; rfl, HJ2.out⟩, HO2.out⟩
      case round =>
        obtain ⟨x, rfl, hx, ⟨hnx, hsx, hfx⟩, ⟨pre, hpre, hJr⟩, HO⟩ := hrel
        have HPRE := Lib.hid hpre
        have HJR := Lib.hid hJr
        clear hpre hJr
        by_cases hlt : x < m
        · have hxl : x < ws.length := by have := HM.out; omega
          have HOW : Hid (Off M W wr) := (Off.of_below HB1.out).trans HO.out
          have HOB : Hid (Off M0 w0 wr) := hB.then HOW.out (fun k hk => (hM k hk).1)
          obtain ⟨bw, ow, rfl, hbw, hcw⟩ := (HWS.out.off HOB.out).1.at x hxl
          have HZ : Hid (ws.getD x 0 = ws[x]'hxl) := by show _ = _; rw [List.getD_eq_getElem?_getD, List.getElem?_eq_getElem hxl]; rfl
          have hz := HWB.out _ (List.getElem_mem hxl)
          obtain ⟨z, hzz⟩ : ∃ z, z = ws[x]'hxl := ⟨_, rfl⟩
          rw [← hzz] at hcw hz
          have HZZ := Lib.hid hzz
          clear hzz
          obtain ⟨hz0, hz1⟩ := hz
          have hRA := HA.out.off HOW.out
          have d0 : wr.cell? ⟨W.heap.size, 0, none⟩ = some (.slice (some ⟨b, o, none⟩) (k + 1) c) := (World.cell?_of_block (HO.out.block W.heap.size (by simp) HBX.out)).trans (by go_simp)
          have d1 : wr.cell? ⟨W.heap.size, 1, none⟩ = some (.int .i64 s) := (World.cell?_of_block (HO.out.block W.heap.size (by simp) HBX.out)).trans (by go_simp)
          have hH : C3 ⟨W.heap.size, 0, none⟩ (.slice (some ⟨b, o, none⟩) (k + 1) c) ⟨W.heap.size, 1, none⟩ (.int .i64 s) ⟨bw, ow + x, none⟩ (.int .i64 z) wr.drew := ⟨d0, d1, hcw⟩
          have hsz : s + z ≤ 100000 * (x + 1) := by omega
          have hx12 : x < 12 := by omega
          have hwsz : IntKind.i64.wrap (s + z) = s + z := IntWalk.i64_in _ (by omega)
          have hRd1 : Rd (wr.drew.alloc (.cells #[.int .i64 x] 3)) (some ⟨b, o, none⟩) cs := hRA.1.below (Below.drew_alloc wr _)
          obtain ⟨v', w2, hrun, hown, hbel⟩ := app_run (wr.drew.alloc (.cells #[.int .i64 x] 3)) (some ⟨b, o, none⟩) cs [(x : Int)] hRd1 HA0.out (some ⟨wr.heap.size, 0, none⟩) 1 (rd_one _ _ _ rfl) (by simp) (by have := HN.out; simp; omega)
          rw [← HN.out] at hrun
          simp only [List.length_singleton] at hrun
          have hown' := hown
          obtain ⟨A', c', rfl, h1, h2, h3, h4⟩ := hown.sl
          have hAM : ∀ a, A' = some a → wr.heap.size ≤ a.block := by
            rintro a rfl
            rcases hown'.2 with ⟨e, _⟩ | ⟨g', cap, cur, e, hg, _⟩
            · cases e
            · cases e; simp at hg; show wr.heap.size ≤ g'; omega
          rw [List.length_append, ← HN.out, List.length_singleton] at hrun h1
          have hwr := HO.out.size
          simp at hwr
          have HRM : Hid (RdM M w2 A' (cs ++ [(x : Int)])) := ⟨h4, fun _ a ha hMa => by have := (hM _ hMa).2; have := hAM a ha; omega⟩
          have HB2 : Hid (Below wr.heap.size wr w2) := ((Below.drew_alloc wr (.cells #[.int .i64 x] 3))).trans (hbel.mono (by simp))
          have HH2 := Lib.hid (hH.below (w' := w2) (((Below.refl _ _).alloc (Nat.le_refl _) _).trans (hbel.mono (by simp))))
          have HH1 := Lib.hid (hH.below (w' := wr.drew.alloc (.cells #[.int .i64 x] 3)) ((Below.refl _ _).alloc (Nat.le_refl _) _))
          have HO2 : Hid (Off M (W.alloc (.cells #[.slice (some ⟨b, o, none⟩) (k + 1) c, .int .i64 s] 79)) w2) := HO.out.trans (Off.of_below HB2.out)
          have HA'0 : Hid (A' = none → cs ++ [(x : Int)] = []) := fun e => by
            subst e
            obtain ⟨b, o, e, _⟩ := h4 (by simp)
            cases e
          have HSTEP : Hid (sbR ws f cs s = pre ++ (((cs ++ [(x : Int)], s + z) :: sbR ws (m - (x + 1)) (cs ++ [(x : Int)]) (s + z)) ++ sbR ws (m - (x + 1)) cs s)) := by
            show _ = _
            rw [HPRE.out, HM.out, sbR_step ws x hxl, HZ.out, ← HZZ.out]
          have HREC := Lib.hid (HIH.out (m - (x + 1)) (by omega) (x + 1) (cs ++ [(x : Int)]) (s + z) A' ((k + 1) + 1) c' (done ++ (cs, s) :: pre) w2 (by rw [List.length_append, ← HN.out]; rfl) (by omega) (by omega) (Fr.app cs x) ⟨by omega, by omega⟩
            (hJ _ _ _ HJR.out (HB2.out))
            (by refine List.IsPrefix.trans ?_ HALL.out; rw [HSTEP.out]; exact ⟨sbR ws (m - (x + 1)) cs s, by simp⟩) HRM.out HA'0.out h1 h2 (hB.then (((Off.of_below HB1.out).trans HO2.out)) (fun k hk => (hM k hk).1)) (by have := HO2.out.size; simp at this; omega))
          have HRUN := Lib.hid hrun
          have HNX : Hid ((k + 1) ≤ x ∧ s ≤ 100000 * (x : Int)) := ⟨hnx, hsx⟩
          have HMW : Hid (¬ M bw) := fun h => by
            obtain ⟨b', o', e, hlt', _⟩ := HWS.out.1 (fun e => by rw [e] at hxl; exact absurd hxl (by simp))
            cases e
            rcases (hM _ h).1 with h' | h'
            · exact HWS.out.2 (fun e => by rw [e] at hxl; exact absurd hxl (by simp)) _ rfl h'
            · omega
          clear hRA hRd1 hown hown' h4 hAM hbel h3 hrun hnx hsx d0 d1 hcw
          gi_wp2_with fail
          refine wpIn_region_held (C3 ⟨W.heap.size, 0, none⟩ (.slice (some ⟨b, o, none⟩) (k + 1) c) ⟨W.heap.size, 1, none⟩ (.int .i64 s) ⟨bw, ow + x, none⟩ (.int .i64 z)) (by kernel_rfl) ?_
          change wpAnyInH _ _ _ _ _ _ _ _ _ _ (World.drew wr)
          refine wpAnyInH_take (i := 0) (v := ?_) rfl rfl (by kernel_rfl) (by kernel_rfl) (by kernel_rfl) (fun _ _ _ h => h) ⟨Or.inl ⟨by rfl, ?_⟩, fun _ => rfl⟩ (by assumption) ?_
          rotate_left
          · intro w hSw
            have k0 := hSw.c0
            have k1 := hSw.c1
            have k2 := hSw.c2
            clear hSw
            go_simp
            try with_reducible rfl
          refine wpAnyInH_take (i := 1) (v := ?_) rfl rfl (by kernel_rfl) (by kernel_rfl) (by kernel_rfl) (fun _ _ _ h => h) ⟨Or.inl ⟨by rfl, ?_⟩, fun _ => rfl⟩ (by assumption) ?_
          rotate_left
          · intro w hSw
            have k0 := hSw.c0
            have k1 := hSw.c1
            have k2 := hSw.c2
            clear hSw
            go_simp
            try with_reducible rfl
          refine wpAnyInH_take (i := 2) (v := ?_) rfl rfl (by kernel_rfl) (by kernel_rfl) (by kernel_rfl) (fun _ _ _ h => h) ⟨Or.inl ⟨by rfl, ?_⟩, fun _ => rfl⟩ (by assumption) ?_
          rotate_left
          · intro w hSw
            have k0 := hSw.c0
            have k1 := hSw.c1
            have k2 := hSw.c2
            clear hSw
            go_simp
            try with_reducible rfl
          refine wpAnyInH_take (i := 4) (v := ?_) rfl rfl (by kernel_rfl) (by kernel_rfl) (by kernel_rfl) (fun _ _ _ h => h) ⟨Or.inl ⟨by rfl, ?_⟩, fun _ => rfl⟩ (by assumption) ?_
          rotate_left
          · intro w hSw
            have k0 := hSw.c0
            have k1 := hSw.c1
            have k2 := hSw.c2
            clear hSw
            go_simp
            try with_reducible rfl
          refine wpAnyInH_take (i := 7) (v := ?_) rfl rfl (by kernel_rfl) (by kernel_rfl) (by kernel_rfl) (fun _ _ _ h => h) ⟨Or.inl ⟨by rfl, ?_⟩, fun _ => rfl⟩ (by assumption) ?_
          rotate_left
          · intro w hSw
            have k0 := hSw.c0
            have k1 := hSw.c1
            have k2 := hSw.c2
            clear hSw
            go_simp
            try with_reducible rfl
          refine wpAnyInH_take (i := 8) (v := ?_) rfl rfl (by kernel_rfl) (by kernel_rfl) (by kernel_rfl) (fun _ _ _ h => h) ⟨Or.inl ⟨by rfl, ?_⟩, fun _ => rfl⟩ (by assumption) ?_
          rotate_left
          · intro w hSw
            have k0 := hSw.c0
            have k1 := hSw.c1
            have k2 := hSw.c2
            clear hSw
            go_simp
            try with_reducible rfl
          refine wpAnyInH_take (i := 9) (v := ?_) rfl rfl (by kernel_rfl) (by kernel_rfl) (by kernel_rfl) (fun _ _ _ h => h) ⟨Or.inl ⟨by rfl, ?_⟩, fun _ => rfl⟩ (by assumption) ?_
          rotate_left
          · intro w hSw
            have k0 := hSw.c0
            have k1 := hSw.c1
            have k2 := hSw.c2
            clear hSw
            go_simp
            try with_reducible rfl
          refine wpAnyInH_take (i := 10) (v := ?_) rfl rfl (by kernel_rfl) (by kernel_rfl) (by kernel_rfl) (fun _ _ _ h => h) ⟨Or.inl ⟨by rfl, ?_⟩, fun _ => rfl⟩ (by assumption) ?_
          rotate_left
          · intro w hSw
            have k0 := hSw.c0
            have k1 := hSw.c1
            have k2 := hSw.c2
            clear hSw
            go_simp
            try with_reducible rfl
          refine wpAnyInH_take (i := 11) (v := ?_) rfl rfl (by kernel_rfl) (by kernel_rfl) (by kernel_rfl) (fun _ _ _ h => h) ⟨Or.inl ⟨by rfl, ?_⟩, fun _ => rfl⟩ (by assumption) ?_
          rotate_left
          · intro w hSw
            have k0 := hSw.c0
            have k1 := hSw.c1
            have k2 := hSw.c2
            clear hSw
            go_simp
            try with_reducible rfl
          refine wpAnyInH_take (i := 12) (v := ?_) rfl rfl (by kernel_rfl) (by kernel_rfl) (by kernel_rfl) (fun _ _ _ h => h) ⟨Or.inl ⟨by rfl, ?_⟩, fun _ => rfl⟩ (by assumption) ?_
          rotate_left
          · intro w hSw
            have k0 := hSw.c0
            have k1 := hSw.c1
            have k2 := hSw.c2
            clear hSw
            go_simp
            try with_reducible rfl
          refine wpAnyInH_take (i := 13) (v := ?_) rfl rfl (by kernel_rfl) (by kernel_rfl) (by kernel_rfl) (fun _ _ _ h => h) ⟨Or.inl ⟨by rfl, ?_⟩, fun _ => rfl⟩ (by assumption) ?_
          rotate_left
          · intro w hSw
            have k0 := hSw.c0
            have k1 := hSw.c1
            have k2 := hSw.c2
            clear hSw
            go_simp
            try with_reducible rfl
          refine wpAnyInH_take (i := 15) (v := ?_) rfl rfl (by kernel_rfl) (by kernel_rfl) (by kernel_rfl) (fun _ _ _ h => h) ⟨Or.inl ⟨by rfl, ?_⟩, fun _ => rfl⟩ (by assumption) ?_
          rotate_left
          · intro w hSw
            have k0 := hSw.c0
            have k1 := hSw.c1
            have k2 := hSw.c2
            clear hSw
            go_simp
            try with_reducible rfl
          refine wpAnyInH_ready (rs := [3, 5]) (by kernel_rfl) (by simp) (AllReadyInH.cons rfl (fun K hK => ?_) (AllReadyInH.cons rfl (fun K hK => ?_) AllReadyInH.nil))
          · have HK := Lib.hid hK
            clear hK
            go_simp
            refine ⟨trivial, rfl, (callsIn_wide.2 (clip_calls _ _ _ _ hl)).mono ?_⟩
            rintro e w1 ⟨rfl, rfl⟩
            refine HK.out _ _ ⟨hH, ?_⟩
            clear HK
            try simp only [Act.put, List.setIfInBounds_toArray, List.set_cons_zero, List.set_cons_succ]
            refine wpAnyInH_ready (rs := [5]) (by kernel_rfl) (by simp) (AllReadyInH.cons rfl ?_ AllReadyInH.nil)
            intro K hK
            have HK := Lib.hid hK
            clear hK
            go_simp
            refine HK.out _ _ ⟨HH1.out, ?_⟩
            clear HK
            try simp only [Act.put, List.setIfInBounds_toArray, List.set_cons_zero, List.set_cons_succ]
            refine wpAnyInH_ready (rs := [6]) (by kernel_rfl) (by simp) (AllReadyInH.cons rfl ?_ AllReadyInH.nil)
            intro K hK
            have HK := Lib.hid hK
            clear hK
            refine step_appIn rfl (.tmp 36) (.tmp 38) 27 27 rfl rfl _ _ rfl rfl HRUN.out ?_
            refine HK.out _ _ ⟨HH2.out, ?_⟩
            clear HK
            have hH2 := HH2.out
            refine wpAnyInH_take (i := 14) (v := ?_) rfl rfl (by kernel_rfl) (by kernel_rfl) (by kernel_rfl) (fun _ _ _ h => h) ⟨Or.inl ⟨by rfl, ?_⟩, fun _ => rfl⟩ (by assumption) ?_
            rotate_left
            · intro w hSw
              have k0 := hSw.c0
              have k1 := hSw.c1
              have k2 := hSw.c2
              clear hSw
              go_simp
              try with_reducible rfl
            refine wpAnyInH_ready (rs := [16]) (by kernel_rfl) (by simp) (AllReadyInH.cons rfl ?_ AllReadyInH.nil)
            intro K hK
            have HK := Lib.hid hK
            clear hK
            go_simp
            refine ⟨trivial, rfl, HREC.out.mono ?_⟩
            rintro e W4 (⟨rfl, hJ4, hO4⟩ | ⟨rfl, q, hq, hX, hO4⟩)
            · have HJ4 := Lib.hid hJ4
              have HO4 := Lib.hid hO4
              clear hJ4 hO4
              have hH4 := hH2.off HO4.out HBX.out HBX.out HMW.out
              refine HK.out _ _ ⟨hH4, ?_⟩
              clear HK
              try simp only [Act.put, List.setIfInBounds_toArray, List.set_cons_zero, List.set_cons_succ]
              refine wpAnyInH_take (i := 17) (v := ?_) rfl rfl (by kernel_rfl) (by kernel_rfl) (by kernel_rfl) (fun _ _ _ h => h) ⟨Or.inl ⟨by rfl, ?_⟩, fun _ => rfl⟩ (by assumption) ?_
              rotate_left
              · intro w hSw
                have k0 := hSw.c0
                have k1 := hSw.c1
                have k2 := hSw.c2
                clear hSw
                go_simp
                try with_reducible rfl
              refine wpAnyInH_done (by kernel_rfl) ?_ _
              gi_wp2_with fail
              go_roundw
              case rel =>
                refine ⟨x + 1, by go_num, by omega, ⟨by have := HNX.out; omega, by have := HNX.out; omega, by omega⟩, ⟨pre ++ (cs ++ [(x : Int)], s + z) :: sbR ws (m - (x + 1)) (cs ++ [(x : Int)]) (s + z), ?_, ?_⟩, HO2.out.trans HO4.out⟩
                · rw [HSTEP.out, List.append_assoc]
                · have := HJ4.out
                  rw [List.append_assoc] at this
                  exact this
              case measure => simp [intOf]; omega
            · have HX := Lib.hid hX
              have HQ := Lib.hid hq
              have HO4 := Lib.hid hO4
              clear hX hq hO4
              have hH4 := hH2.off HO4.out HBX.out HBX.out HMW.out
              refine HK.out _ _ ⟨hH4, ?_⟩
              clear HK
              try simp only [Act.put, List.setIfInBounds_toArray, List.set_cons_zero, List.set_cons_succ]
              refine wpAnyInH_take (i := 17) (v := ?_) rfl rfl (by kernel_rfl) (by kernel_rfl) (by kernel_rfl) (fun _ _ _ h => h) ⟨Or.inl ⟨by rfl, ?_⟩, fun _ => rfl⟩ (by assumption) ?_
              rotate_left
              · intro w hSw
                have k0 := hSw.c0
                have k1 := hSw.c1
                have k2 := hSw.c2
                clear hSw
                go_simp
                try with_reducible rfl
              refine wpAnyInH_done (by kernel_rfl) ?_ _
              gi_wp2_with fail
              go_ret
              refine .inr ⟨rfl, (cs, s) :: (pre ++ q), ?_, ?_, ((Off.of_below HB1.out).trans HO2.out).trans HO4.out⟩
              · rw [HSTEP.out]
                obtain ⟨t, ht⟩ := HQ.out
                exact ⟨t ++ sbR ws (m - (x + 1)) cs s, by rw [← ht]; simp⟩
              · have := HX.out
                rw [List.append_assoc] at this
                exact this
          · have HK := Lib.hid hK
            clear hK
            go_simp
            refine HK.out _ _ ⟨HH1.out, ?_⟩
            clear HK
            try simp only [Act.put, List.setIfInBounds_toArray, List.set_cons_zero, List.set_cons_succ]
            refine wpAnyInH_ready (rs := [3]) (by kernel_rfl) (by simp) (AllReadyInH.cons rfl ?_ AllReadyInH.nil)
            intro K hK
            have HK := Lib.hid hK
            clear hK
            go_simp
            refine ⟨trivial, rfl, (callsIn_wide.2 (clip_calls _ _ _ _ hl)).mono ?_⟩
            rintro e w1 ⟨rfl, rfl⟩
            refine HK.out _ _ ⟨HH1.out, ?_⟩
            clear HK
            try simp only [Act.put, List.setIfInBounds_toArray, List.set_cons_zero, List.set_cons_succ]
            refine wpAnyInH_ready (rs := [6]) (by kernel_rfl) (by simp) (AllReadyInH.cons rfl ?_ AllReadyInH.nil)
            intro K hK
            have HK := Lib.hid hK
            clear hK
            refine step_appIn rfl (.tmp 36) (.tmp 38) 27 27 rfl rfl _ _ rfl rfl HRUN.out ?_
            refine HK.out _ _ ⟨HH2.out, ?_⟩
            clear HK
            have hH2 := HH2.out
            refine wpAnyInH_take (i := 14) (v := ?_) rfl rfl (by kernel_rfl) (by kernel_rfl) (by kernel_rfl) (fun _ _ _ h => h) ⟨Or.inl ⟨by rfl, ?_⟩, fun _ => rfl⟩ (by assumption) ?_
            rotate_left
            · intro w hSw
              have k0 := hSw.c0
              have k1 := hSw.c1
              have k2 := hSw.c2
              clear hSw
              go_simp
              try with_reducible rfl
            refine wpAnyInH_ready (rs := [16]) (by kernel_rfl) (by simp) (AllReadyInH.cons rfl ?_ AllReadyInH.nil)
            intro K hK
            have HK := Lib.hid hK
            clear hK
            go_simp
            refine ⟨trivial, rfl, HREC.out.mono ?_⟩
            rintro e W4 (⟨rfl, hJ4, hO4⟩ | ⟨rfl, q, hq, hX, hO4⟩)
            · have HJ4 := Lib.hid hJ4
              have HO4 := Lib.hid hO4
              clear hJ4 hO4
              have hH4 := hH2.off HO4.out HBX.out HBX.out HMW.out
              refine HK.out _ _ ⟨hH4, ?_⟩
              clear HK
              try simp only [Act.put, List.setIfInBounds_toArray, List.set_cons_zero, List.set_cons_succ]
              refine wpAnyInH_take (i := 17) (v := ?_) rfl rfl (by kernel_rfl) (by kernel_rfl) (by kernel_rfl) (fun _ _ _ h => h) ⟨Or.inl ⟨by rfl, ?_⟩, fun _ => rfl⟩ (by assumption) ?_
              rotate_left
              · intro w hSw
                have k0 := hSw.c0
                have k1 := hSw.c1
                have k2 := hSw.c2
                clear hSw
                go_simp
                try with_reducible rfl
              refine wpAnyInH_done (by kernel_rfl) ?_ _
              gi_wp2_with fail
              go_roundw
              case rel =>
                refine ⟨x + 1, by go_num, by omega, ⟨by have := HNX.out; omega, by have := HNX.out; omega, by omega⟩, ⟨pre ++ (cs ++ [(x : Int)], s + z) :: sbR ws (m - (x + 1)) (cs ++ [(x : Int)]) (s + z), ?_, ?_⟩, HO2.out.trans HO4.out⟩
                · rw [HSTEP.out, List.append_assoc]
                · have := HJ4.out
                  rw [List.append_assoc] at this
                  exact this
              case measure => simp [intOf]; omega
            · have HX := Lib.hid hX
              have HQ := Lib.hid hq
              have HO4 := Lib.hid hO4
              clear hX hq hO4
              have hH4 := hH2.off HO4.out HBX.out HBX.out HMW.out
              refine HK.out _ _ ⟨hH4, ?_⟩
              clear HK
              try simp only [Act.put, List.setIfInBounds_toArray, List.set_cons_zero, List.set_cons_succ]
              refine wpAnyInH_take (i := 17) (v := ?_) rfl rfl (by kernel_rfl) (by kernel_rfl) (by kernel_rfl) (fun _ _ _ h => h) ⟨Or.inl ⟨by rfl, ?_⟩, fun _ => rfl⟩ (by assumption) ?_
              rotate_left
              · intro w hSw
                have k0 := hSw.c0
                have k1 := hSw.c1
                have k2 := hSw.c2
                clear hSw
                go_simp
                try with_reducible rfl
              refine wpAnyInH_done (by kernel_rfl) ?_ _
              gi_wp2_with fail
              go_ret
              refine .inr ⟨rfl, (cs, s) :: (pre ++ q), ?_, ?_, ((Off.of_below HB1.out).trans HO2.out).trans HO4.out⟩
              · rw [HSTEP.out]
                obtain ⟨t, ht⟩ := HQ.out
                exact ⟨t ++ sbR ws (m - (x + 1)) cs s, by rw [← ht]; simp⟩
              · have := HX.out
                rw [List.append_assoc] at this
                exact this
        · gi_wp2_with fail
          go_ret
          refine .inl ⟨rfl, ?_, (Off.of_below HB1.out).trans HO.out⟩
          have := HPRE.out
          rw [show m - x = 0 by omega, sbR, List.append_nil] at this
          rw [this]; exact HJR.out
end Go.Proofs.Ythnhmfmlhlpggaa
