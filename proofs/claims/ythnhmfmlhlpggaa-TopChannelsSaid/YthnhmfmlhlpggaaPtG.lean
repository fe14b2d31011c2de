/- What is proved: the extension of a beginning of a coloring (contracts of functions of paint, and what they need). No condition beyond those in each statement. -/
import Derived.Test.YthnhmfmlhlpggaaPtF
import Derived.RangeFuncNested
import Derived.RangeFuncBound
import Derived.RangeFuncCalls
import Derived.RangeFuncLeaves
import Derived.Shelf.Abstract
import Derived.Shelf.RegionOpen
import Derived.OwnWalkIn
import Derived.TacticsInMore
import Derived.LoopNIn
import Derived.LoopIn
namespace Go.Proofs.Ythnhmfmlhlpggaa.Pt
open Go.RowKit Go.Shelf
set_option maxRecDepth 100000
attribute [local go_sem] Oper.semAt_some

theorem wpListIn_app {F : Fence} {n : Nat} {P : Program} {w : World} {ops : Array Oper} {rest : List Oper} {o : Oper} {a : Act} {Q : Exit → Act → World → Prop}
    (hg : o.guard = none) (s x : Operand) (t ty : TypeId) (hop : o.op = Op.call { callee := Callee.builtin Builtin.append, args := #[s, x], argTypes := #[t, t] }) (hty : o.type = ty)
    (v1 v2 : Value) (hs : a.eval s = v1) (hx : a.eval x = v2) {v' : Value} {w' : World} (hrun : (Builtin.append_ #[t, t] ty #[v1, v2]).run P w = .ok v' w')
    (hK : wpListIn F n P ops Q rest (a.put o.dst v') w') : wpListIn F n P ops Q (o :: rest) a w := by
  refine wpListIn_plain hg fun K hK' => ?_
  unfold Oper.wpIn
  refine ⟨?_, ?_⟩
  · simp [Oper.about, hop, resolve, Target.leads, Sem.run_pure]
  · rw [Oper.semAt_plain F _ _ (by rw [hop]; intro c hc'; cases hc')]
    simp [execOp, hop, hty, resolve, invoke, builtin, hs, hx, hrun, Result.andThen]
    exact hK' _ _ hK

/-- All colourings that go on with a beginning. -/
def leaves (below : Nat) (good : List Int → Bool) : Nat → List Int → List (List Int)
  | 0, l => [l]
  | f + 1, l => (List.range below).flatMap fun c : Nat => if good (l ++ [(c : Int)]) then leaves below good f (l ++ [(c : Int)]) else []

def leavesFrom (below : Nat) (good : List Int → Bool) (f : Nat) (l : List Int) (c0 : Nat) : List (List Int) :=
  (List.range' c0 (below - c0)).flatMap fun c : Nat => if good (l ++ [(c : Int)]) then leaves below good f (l ++ [(c : Int)]) else []
theorem leaves_succ (below : Nat) (good : List Int → Bool) (f : Nat) (l : List Int) : leaves below good (f + 1) l = leavesFrom below good f l 0 := by
  unfold leavesFrom
  rw [Nat.sub_zero, ← List.range_eq_range']; rfl
theorem leavesFrom_step {below : Nat} {good : List Int → Bool} {f : Nat} {l : List Int} {c : Nat} (h : c < below) :
    leavesFrom below good f l c = (if good (l ++ [(c : Int)]) then leaves below good f (l ++ [(c : Int)]) else []) ++ leavesFrom below good f l (c + 1) := by
  unfold leavesFrom
  rw [show below - c = (below - (c + 1)) + 1 by omega, List.range'_succ, List.flatMap_cons]
theorem leavesFrom_end {below : Nat} {good : List Int → Bool} {f : Nat} {l : List Int} {c : Nat} (h : below ≤ c) : leavesFrom below good f l c = [] := by
  unfold leavesFrom
  rw [show below - c = 0 by omega]; rfl

/-- Only blocks in M, and new ones, differ. -/
structure Off (M : Nat → Prop) (w w' : World) : Prop where
  os : w'.os = w.os
  tape : w'.tape = w.tape
  output : w'.output = w.output
  size : w.heap.size ≤ w'.heap.size
  block : ∀ k, k < w.heap.size → ¬ M k → w'.heap[k]? = w.heap[k]?
theorem Off.refl (M : Nat → Prop) (w : World) : Off M w w := ⟨rfl, rfl, rfl, Nat.le_refl _, fun _ _ _ => rfl⟩
theorem Off.trans {M : Nat → Prop} {a b c : World} (h : Off M a b) (k : Off M b c) : Off M a c :=
  ⟨k.os.trans h.os, k.tape.trans h.tape, k.output.trans h.output, Nat.le_trans h.size k.size, fun i hi hM => (k.block i (Nat.lt_of_lt_of_le hi h.size) hM).trans (h.block i hi hM)⟩
theorem Off.of_below {M : Nat → Prop} {a b : World} (h : Below a.heap.size a b) : Off M a b := ⟨h.os, h.tape, h.output, h.size, fun k hk _ => h.block k hk⟩
theorem Off.then {M0 M : Nat → Prop} {w0 a b : World} (h : Off M0 w0 a) (k : Off M a b) (hM : ∀ i, M i → M0 i ∨ w0.heap.size ≤ i) : Off M0 w0 b :=
  ⟨k.os.trans h.os, k.tape.trans h.tape, k.output.trans h.output, Nat.le_trans h.size k.size, fun i hi hn => (k.block i (Nat.lt_of_lt_of_le hi h.size) (fun hm => by rcases hM i hm with q | q; exact hn q; omega)).trans (h.block i hi hn)⟩
theorem Off.below {M : Nat → Prop} {B : Nat} {a b : World} (h : Off M a b) (hB : B ≤ a.heap.size) (hM : ∀ k, M k → B ≤ k) : Below B a b :=
  ⟨h.os, h.tape, h.output, h.size, fun k hk => h.block k (by omega) (fun hm => by have := hM k hm; omega)⟩

/-- A slice that reads, its block none of M's. -/
def RdM (M : Nat → Prop) (w : World) (A : Option Addr) (xs : List Int) : Prop := Rd w A xs ∧ (xs ≠ [] → ∀ a, A = some a → ¬ M a.block)
theorem RdM.off {M : Nat → Prop} {w w' : World} {A : Option Addr} {xs : List Int} (h : RdM M w A xs) (ho : Off M w w') : RdM M w' A xs :=
  ⟨fun hne => by
    obtain ⟨b, o, rfl, hb, hc⟩ := h.1 hne
    exact ⟨b, o, rfl, Nat.lt_of_lt_of_le hb ho.size, fun i hi => (World.cell?_of_block (w := w) (ho.block b hb (h.2 hne _ rfl))).trans (hc i hi)⟩, h.2⟩

set_option maxHeartbeats 2000000 in
theorem extend_in (gid : Nat) (gcaps : Array Value) (hen : ∀ args w, (callFunc gid args).run Try.prog w = .ok (.enter gid args) w) (good : List Int → Bool) (M0 : Nat → Prop) (w0 : World) (many below : Nat) (hmany : many ≤ 100) (hbelow : below ≤ 100)
    (hgood : ∀ (xs : List Int) (A : Option Addr) (n c : Nat) (W : World), n = xs.length → n ≤ many → Off M0 w0 W → Rd W A xs → n ≤ c → c ≤ 9223372036854775807 → (∃ x ∈ xs, True) → (∀ x ∈ xs, 0 ≤ x ∧ x < below) →
      Calls Try.prog gid (#[.slice A n c] ++ gcaps) W fun e W' => e = .returned (.bool (good xs)) ∧ Below W.heap.size W W')
    (l : Nat) (M : Nat → Prop) (N1 : Nat) (hM : ∀ k, M k → (M0 k ∨ w0.heap.size ≤ k) ∧ k < N1) (_hN1 : w0.heap.size ≤ N1)
    (J Jx : List (List Int) → World → Prop) (hJ : ∀ s W W', J s W → Below W.heap.size W W' → J s W') (all : List (List Int))
    (hY : ∀ done xs A n c W, J done W → (done ++ [xs]) <+: all → n = xs.length → RdM M W A xs → n ≤ c → c ≤ 9223372036854775807 → Off M0 w0 W → N1 ≤ W.heap.size →
      YieldAt Fence.wide 0 Try.prog l #[.slice A n c] W fun e W' => (e = .returned (.bool true) ∧ J (done ++ [xs]) W' ∧ Off M W W') ∨ (e = .returned (.bool false) ∧ Jx (done ++ [xs]) W')) (f : Nat) :
    ∀ (cs : List Int) (A : Option Addr) (n c : Nat) (done : List (List Int)) (W : World), n = cs.length → many = n + f → J done W → (done ++ leaves below good f cs) <+: all → RdM M W A cs → (A = none → cs = []) → n ≤ c → c ≤ 9223372036854775807 → (∀ x ∈ cs, 0 ≤ x ∧ x < below) →
      Off M0 w0 W → N1 ≤ W.heap.size →
      CallsIn Fence.wide 0 Try.prog 116 #[.slice A n c, .int .i64 many, .int .i64 below, .func (.func gid) #[] gcaps, .func (.yield l) #[] #[]] W fun e W' =>
        (e = .returned (.bool true) ∧ J (done ++ leaves below good f cs) W' ∧ Off M W W') ∨ (e = .returned (.bool false) ∧ ∃ q, q <+: leaves below good f cs ∧ Jx (done ++ q) W') := by
  induction f with
  | zero =>
    intro cs A n c done W hn hm hJ0 hall hA hA0 hl hc hcb hB hN
    obtain ⟨fn, tmps, assign, body, hy, hR⟩ := hY done cs A n c W hJ0 hall hn hA hl hc hB hN
    have hm' : ((n : Int) == (many : Int)) = true := by rw [hm]; simp
    clear hY hgood hn hm hJ0 hall
    refine callsIn_of_wp Try.func116 rfl trivial ?_ rfl
    simp only [Try.ntmps116, List.size_toArray, List.length_cons, List.length_nil, Nat.reduceAdd, Nat.reduceSub, Array.replicate_succ, Array.replicate_zero, List.push_toArray, List.append_toArray, List.nil_append, List.cons_append]
    gi_wp2
    refine ⟨rfl, ?_⟩
    refine hR.mono ?_
    rintro e W' (⟨rfl, hJ', hO⟩ | ⟨rfl, hX⟩)
    · gi_wp2
      go_ret
      exact .inl ⟨rfl, hJ', hO⟩
    · gi_wp2
      go_ret
      exact .inr ⟨rfl, [cs], List.prefix_rfl, hX⟩
  | succ f ih =>
    intro cs A n c done W hn hm hJ0 hall hA hA0 hl hc hcb hB hN
    have hm' : ((n : Int) == (many : Int)) = false := by rw [hm]; simp; omega
    have HIH := Lib.hid ih
    have HG := Lib.hid hgood
    have HN := Lib.hid hn
    have HM := Lib.hid hm
    have HA := Lib.hid hA
    have HA0 := Lib.hid hA0
    have HALL := Lib.hid hall
    have HCB := Lib.hid hcb
    have hnm : n < many := by omega
    clear ih hY hgood hn hm hall hA hA0 hcb
    refine callsIn_of_wp Try.func116 rfl trivial ?_ rfl
    simp only [Try.ntmps116, List.size_toArray, List.length_cons, List.length_nil, Nat.reduceAdd, Nat.reduceSub, Array.replicate_succ, Array.replicate_zero, List.push_toArray, List.append_toArray, List.nil_append, List.cons_append]
    gi_wp2_with fail
    gi_loopw [21] (fun v wr => ∃ x : Nat, v = .int .i64 x ∧ x ≤ below ∧ Hid (∃ pre, leaves below good (f + 1) cs = pre ++ leavesFrom below good f cs x ∧ J (done ++ pre) wr) ∧ Hid (Off M W wr)) (fun v _ => below - (intOf v).toNat)
    case atStart => exact ⟨0, rfl, Nat.zero_le _, ⟨[], by rw [leaves_succ]; rfl, by simpa using hJ0⟩, Off.refl _ _⟩
    case round =>
      obtain ⟨x, rfl, hx, ⟨pre, hpre, hJr⟩, HO⟩ := hrel
      have HPRE := Lib.hid hpre
      have HJR := Lib.hid hJr
      clear hpre hJr hJ0
      by_cases hlt : x < below
      · have hRA := HA.out.off HO.out
        have hRd1 : Rd (wr.alloc (.cells #[.int .i64 x] 3)) A cs := hRA.1.below ((Below.refl _ _).alloc (Nat.le_refl _) _)
        obtain ⟨v', w2, hrun, hown, hbel⟩ := app_run (wr.alloc (.cells #[.int .i64 x] 3)) A cs [(x : Int)] hRd1 HA0.out (some ⟨wr.heap.size, 0, none⟩) 1 (rd_one _ _ _ rfl) (by simp) (by have := HN.out; simp; omega)
        rw [← HN.out] at hrun
        simp only [List.length_singleton] at hrun
        have hown' := hown
        obtain ⟨A', c', rfl, h1, h2, h3, h4⟩ := hown.sl
        have hAM : ∀ a, A' = some a → wr.heap.size ≤ a.block := by
          rintro a rfl
          rcases hown'.2 with ⟨e, _⟩ | ⟨g', cap, cur, e, hg, _⟩
          · cases e
          · cases e; simp at hg; show wr.heap.size ≤ g'; omega
        rw [List.length_append, ← HN.out, List.length_singleton] at hrun h1
        have hwr := HO.out.size
        have HRM : Hid (RdM M w2 A' (cs ++ [(x : Int)])) := ⟨h4, fun _ a ha hMa => by have := (hM _ hMa).2; have := hAM a ha; omega⟩
        have HB2 : Hid (Below wr.heap.size wr w2) := ((Below.refl _ wr).alloc (Nat.le_refl _) _).trans (hbel.mono (by simp))
        have HO2 := Lib.hid (HO.out.trans (Off.of_below HB2.out))
        have HA'0 : Hid (A' = none → cs ++ [(x : Int)] = []) := fun e => by
          subst e
          obtain ⟨b, o, e, _⟩ := h4 (by simp)
          cases e
        have HCB' : Hid (∀ y ∈ cs ++ [(x : Int)], 0 ≤ y ∧ y < (below : Int)) := fun y hy => by
          rcases List.mem_append.1 hy with hy | hy
          · exact HCB.out y hy
          · have : y = x := by simpa using hy
            omega
        have HBW : Hid (Off M0 w0 w2) := hB.then HO2.out (fun k hk => (hM k hk).1)
        have HSZ : Hid (N1 ≤ w2.heap.size) := by show N1 ≤ _; have := HO2.out.size; omega
        have HGC := Lib.hid (HG.out (cs ++ [(x : Int)]) A' (n + 1) c' w2 (by rw [List.length_append, ← HN.out]; rfl) hnm HBW.out h4 h1 h2 ⟨x, by simp, trivial⟩ HCB'.out)
        clear hRA hRd1 hown hown' h4 hAM hbel h3
        gi_wp2_with fail
        refine ⟨trivial, rfl, ?_⟩
        refine (callsIn_wide.2 (clip_calls _ _ _ _ hl)).mono ?_
        rintro e w1 ⟨rfl, rfl⟩
        have HRUN := Lib.hid hrun
        clear hrun
        gi_wp2_with (gi_at_builtin; refine wpListIn_app rfl (.tmp 25) (.tmp 27) 27 27 rfl rfl _ _ rfl rfl HRUN.out ?_)
        refine ⟨trivial, rfl, ?_⟩
        refine (callsIn_wide.2 HGC.out).mono ?_
        rintro e w3 ⟨rfl, hB3⟩
        have HB3 := Lib.hid hB3
        have hsz3 := hB3.size
        have hsz2 := HO2.out.size
        clear hB3
        cases hgd : good (cs ++ [(x : Int)])
        · have HGD := Lib.hid hgd
          clear hgd
          gi_wp2_with fail
          refine ⟨trivial, ?_⟩
          gi_wp2_with fail
          go_roundw
          case rel =>
            refine ⟨x + 1, by go_num, by omega, ⟨pre, ?_, ?_⟩, HO2.out.trans (Off.of_below HB3.out)⟩
            · rw [HPRE.out, leavesFrom_step hlt, HGD.out]; rfl
            · exact hJ _ _ _ HJR.out (HB2.out.trans (HB3.out.mono HB2.out.size))
          case measure => simp [intOf]; omega
        · have HGD := Lib.hid hgd
          clear hgd
          have HSTEP : Hid (leaves below good (f + 1) cs = pre ++ (leaves below good f (cs ++ [(x : Int)]) ++ leavesFrom below good f cs (x + 1))) := by
            show _ = _
            rw [HPRE.out, leavesFrom_step hlt, HGD.out]; rfl
          gi_wp2_with fail
          refine ⟨trivial, rfl, ?_⟩
          refine (HIH.out (cs ++ [(x : Int)]) A' (n + 1) c' (done ++ pre) w3 (by rw [List.length_append, ← HN.out]; rfl) (by have := HM.out; omega) (hJ _ _ _ HJR.out (HB2.out.trans (HB3.out.mono HB2.out.size)))
            ?_ (HRM.out.off (Off.of_below HB3.out)) HA'0.out h1 h2 HCB'.out (HBW.out.then (Off.of_below (M := fun _ => False) HB3.out) (fun _ h => h.elim)) (by omega)).mono ?_
          · refine List.IsPrefix.trans ?_ HALL.out
            rw [HSTEP.out, List.append_assoc]
            exact ⟨leavesFrom below good f cs (x + 1), by simp⟩
          rintro e w4 (⟨rfl, hJ4, hO4⟩ | ⟨rfl, q, hq, hX⟩)
          · have HJ4 := Lib.hid hJ4
            have HO4 := Lib.hid hO4
            clear hJ4 hO4
            gi_wp2_with fail
            go_roundw
            case rel =>
              refine ⟨x + 1, by go_num, by omega, ⟨pre ++ leaves below good f (cs ++ [(x : Int)]), ?_, ?_⟩, (HO2.out.trans (Off.of_below HB3.out)).trans HO4.out⟩
              · rw [HSTEP.out, List.append_assoc]
              · rw [← List.append_assoc]; exact HJ4.out
            case measure => simp [intOf]; omega
          · have HX := Lib.hid hX
            have HQ := Lib.hid hq
            clear hX hq
            gi_wp2_with fail
            go_ret
            refine .inr ⟨rfl, pre ++ q, ?_, ?_⟩
            · rw [HSTEP.out]
              obtain ⟨t, ht⟩ := HQ.out
              exact ⟨t ++ leavesFrom below good f cs (x + 1), by rw [← ht]; simp⟩
            · rw [← List.append_assoc]; exact HX.out
      · gi_wp2_with fail
        go_ret
        refine .inl ⟨rfl, ?_, HO.out⟩
        have := HPRE.out
        rw [leavesFrom_end (by omega), List.append_nil] at this
        rw [this]; exact HJR.out
end Go.Proofs.Ythnhmfmlhlpggaa.Pt
