/- What is proved: the reference's Least. No condition beyond those in each statement. -/
import Derived.Test.YtlidnhmagleehaaZG
namespace Go.Proofs.Ytlidnhmagleehaa
open Go.RowKit

def stUp (es : List (Int × Int)) (o : List Int) (st : Nat → Option (Int × List Int)) (kk : Nat) : Nat → Option (Int × List Int) := fun i => if i < kk then up1 (cst es i o) o (st i) else st i
def LstI (N gP gv go : Nat) (es : List (Int × Int)) (o : List Int) (st : Nat → Option (Int × List Int)) (w : World) (q : Value) (wr : World) : Prop :=
  ∃ kk : Nat, q = .int .i64 kk ∧ kk ≤ 3 ∧ Hid (Bst N gP gv go (stUp es o st kk) wr) ∧ Hid (B2 N gv go w wr)
theorem bst_congr {N gP gv go : Nat} {st st' : Nat → Option (Int × List Int)} {w : World} (h : Bst N gP gv go st w) (e : ∀ i, i < 3 → st i = st' i) : Bst N gP gv go st' w := by
  obtain ⟨vals, ovs, h1, h2⟩ := h
  exact ⟨vals, ovs, h1, fun i hi => by rw [← e i hi]; exact h2 i hi⟩
theorem stUp_succ (es : List (Int × Int)) (o : List Int) (st : Nat → Option (Int × List Int)) (kk : Nat) (i : Nat) : stUp es o st (kk + 1) i = if i = kk then up1 (cst es kk o) o (st kk) else stUp es o st kk i := by
  unfold stUp
  by_cases e : i = kk
  · subst e; simp
  · rw [if_neg e]
    by_cases h : i < kk
    · rw [if_pos h, if_pos (by omega)]
    · rw [if_neg h, if_neg (by omega)]
/-- While an order is noted: behind its copy. -/
def Cmb (N gP gv go : Nat) (W : World) (vals : List Int) (ovs : List Value) (g2 c2 : Nat) (p : List Int) (x : World) : Prop :=
  Bq N gP gv go vals ovs x ∧ B2 N gv go W x ∧ Arr x W.heap.size g2 c2 p ∧ g2 ≠ gv ∧ g2 ≠ go
theorem Cmb.init {N gP gv go g2 c2 : Nat} {W x : World} {vals : List Int} {ovs : List Value} {p : List Int} (hq : Bq N gP gv go vals ovs W) (hb : Below W.heap.size W x) (hr : Arr x W.heap.size g2 c2 p) : Cmb N gP gv go W vals ovs g2 c2 p x := by
  have hl := hq.lt
  have := hr.lt
  exact ⟨hq.below hb, B2.of_below (by omega) hb, hr, by omega, by omega⟩
theorem Cmb.drew {N gP gv go g2 c2 : Nat} {W x : World} {vals : List Int} {ovs : List Value} {p : List Int} (h : Cmb N gP gv go W vals ovs g2 c2 p x) : Cmb N gP gv go W vals ovs g2 c2 p x.drew :=
  ⟨h.1.same rfl rfl rfl, ⟨h.2.1.1.drew, h.2.1.2⟩, h.2.2.1, h.2.2.2⟩
theorem Cmb.setv {N gP gv go g2 c2 : Nat} {W x : World} {vals : List Int} {ovs : List Value} {p : List Int} (h : Cmb N gP gv go W vals ovs g2 c2 p x) (i : Nat) (v : Int) : Cmb N gP gv go W (vals.set i v) ovs g2 c2 p (x.setCell ⟨gv, i, none⟩ (.int .i64 v)) :=
  ⟨h.1.setv i v, h.2.1.setv h.1.lt.1.1 i _, h.2.2.1.same (heap_setCell_other x ⟨gv, i, none⟩ g2 _ h.2.2.2.1), h.2.2.2⟩
theorem Cmb.seto {N gP gv go g2 c2 : Nat} {W x : World} {vals : List Int} {ovs : List Value} {p : List Int} (h : Cmb N gP gv go W vals ovs g2 c2 p x) (i : Nat) (v : Value) : Cmb N gP gv go W vals (ovs.set i v) g2 c2 p (x.setCell ⟨go, i, none⟩ v) :=
  ⟨h.1.seto i v, h.2.1.seto h.1.lt.2.1.1 i _, h.2.2.1.same (heap_setCell_other x ⟨go, i, none⟩ g2 _ h.2.2.2.2), h.2.2.2⟩
theorem rd_b2 {N gv go : Nat} {w w' : World} {g : Nat} {p : List Int} (h : Rd w (some ⟨g, 0, none⟩) p) (hb : B2 N gv go w w') (h1 : g ≠ gv) (h2 : g ≠ go) : Rd w' (some ⟨g, 0, none⟩) p := fun hne => by
  obtain ⟨b, o, e', hlt, hc⟩ := h hne
  have e := e'
  simp at e
  obtain ⟨rfl, rfl⟩ := e
  exact rd_same h hb.1.size (hb.2 g hlt h1 h2) hne
theorem kp_cells {N gP gv go ga : Nat} {W w' : World} {o : List Int} (hR : Rd W (some ⟨ga, 0, none⟩) o) (hK : Kp N gP gv go W w') (h : ga ≠ gv ∧ ga ≠ go) : ∀ j (hj : j < o.length), w'.cell? ((⟨ga, 0, none⟩ : Addr).add j) = some (.int .i64 o[j]) := by
  intro j hj
  obtain ⟨_, _, _, h2, _⟩ := hK
  have := (rd_b2 hR h2 h.1 h.2).at2 j hj
  rw [addr_add]
  exact this
def CopI (W : World) (base k : Nat) (xs : List Int) (v' : Value) (w' : World) : Prop := ∃ g' c', v' = .slice (some ⟨g', 0, none⟩) k c' ∧ Arr w' base g' c' xs ∧ Below base W w'
theorem owi_copyN {w : World} {base g c k : Nat} {ys : List Int} {a : Addr} {cf : Nat} (hm : k = ys.length) (h : Arr w base g c []) (hF : ∀ j (hj : j < ys.length), w.cell? (a.add j) = some (.int .i64 ys[j])) (hb : base ≤ w.heap.size) (hl : ys.length ≤ 1000) :
    ∃ v' w', (Builtin.append_ #[27, 27] 27 #[.slice (some ⟨g, 0, none⟩) 0 c, .slice (some a) k cf]).run Try.prog w = .ok v' w' ∧ CopI w base k ys v' w' := by
  obtain ⟨v', w', hrun, g', c', e, ho, hB, _⟩ := owi_app (xs := []) (ys := ys) (cf := cf) (n := 0) rfl hm h hF hb (by simpa using hl)
  exact ⟨v', w', hrun, g', c', by rw [e, hm]; rfl, ho, hB⟩
set_option maxRecDepth 100000 in
set_option maxHeartbeats 16000000 in
/-- The end: an order is whole. -/
theorem Least_end (k : Nat) (hk : 1 ≤ k ∧ k ≤ 8) (B : Option Addr) (ne ce : Nat) (es : List (Int × Int)) (N gP gv go ga ca : Nat) (o : List Int) (st : Nat → Option (Int × List Int)) (w : World) (hne : ne = es.length) (h30 : ne ≤ 100) (hg : IsG k es) (hB : RdE w B es) (hle : ne ≤ ce) (hce : ce ≤ 9223372036854775807)
    (ho : IsOrd k o) (hA : Rd w (some ⟨ga, 0, none⟩) o) (hl : k ≤ ca) (hc : ca ≤ 9223372036854775807) (ha : ga ≠ gv ∧ ga ≠ go) (hst : Bst N gP gv go st w) :
    Calls Try.prog 41 #[.int .i64 k, .slice B ne ce, .slice (some ⟨ga, 0, none⟩) k ca, .pointer (some ⟨gP, 0, none⟩)] w fun e w' => e = .returned (.tuple #[]) ∧ Bst N gP gv go (stUp es o st 3) w' ∧ B2 N gv go w w' := by
  have qT : ∀ (w : World) (a : Option Addr) (n c n' c' : Nat), (binOp .eql 27 (.slice a n c) (.slice none n' c')).run Try.prog w = .ok (.bool a.isNone) w := fun w a n c n' c' => Lib.run_eql_slice_nil w _ _ a n c n' c' Try.underlying27
  have CM := Lib.hid (rmeasure_calls k hk B ne ce es (some ⟨ga, 0, none⟩) k ca o w hne h30 hg hB hle hce rfl ho hA hl hc)
  have HA := Lib.hid hA
  have HO := Lib.hid ho
  have HST := Lib.hid hst
  have HSS := Lib.hid ha
  have hN : N ≤ w.heap.size := by obtain ⟨_, _, hq, _⟩ := hst; have := hq.lt; omega
  have HN := Lib.hid hN
  clear hne hg hB ho hA hst ha hN
  go_enter Try.func41, Try.ntmps41
  go_wp2_with fail
  refine CM.out.mono ?_
  rintro e w1 ⟨rfl, hB1⟩
  have HA := Lib.hid (HA.out.below hB1)
  have HST := Lib.hid (HST.out.below HN.out hB1)
  have HB2 := Lib.hid (B2.of_below (gv := gv) (go := go) HN.out hB1)
  obtain ⟨X0, h0⟩ : ∃ q, q = bandF (posF o) es := ⟨_, rfl⟩
  obtain ⟨X1, h1⟩ : ∃ q, q = cutF (posF o) es := ⟨_, rfl⟩
  obtain ⟨X2, h2⟩ : ∃ q, q = totalF (posF o) es := ⟨_, rfl⟩
  rw [← h0, ← h1, ← h2]
  have HC0 : Hid (cst es 0 o = X0) := h0.symm
  have HC1 : Hid (cst es 1 o = X1) := h1.symm
  have HC2 : Hid (cst es 2 o = X2) := h2.symm
  clear hB1 h0 h1 h2
  go_wp2_with fail
  go_loopw [11] (LstI N gP gv go es o st w1) (fun q _ => 3 - (intOf q).toNat)
  case atStart => exact ⟨0, rfl, by omega, Lib.hid (bst_congr HST.out (fun i hi => by simp [stUp])), Lib.hid (B2.refl _ _ _ _)⟩
  case round =>
    obtain ⟨kk, rfl, hkk, HS, HBB⟩ := hrel
    obtain ⟨W, hW⟩ : ∃ q, q = wr := ⟨_, rfl⟩
    rw [← hW] at HS HBB ⊢
    clear hW
    by_cases hlt : kk < 3
    · obtain ⟨W1, hW1⟩ : ∃ q, q = W.alloc (.cells #[.int .i64 X0, .int .i64 X1, .int .i64 X2] 3) := ⟨_, rfl⟩
      have hNW : N ≤ W.heap.size := by obtain ⟨_, _, hq, _⟩ := HS.out; have := hq.lt; omega
      have hBW : Below W.heap.size W W1 := by rw [hW1]; exact (Below.refl _ _).alloc (Nat.le_refl _) _
      obtain ⟨vals, ovs, hq, hs⟩ := HS.out.below hNW hBW
      have HBB := Lib.hid (HBB.out.trans (B2.of_below (gv := gv) (go := go) hNW hBW))
      have HA := Lib.hid (rd_b2 HA.out HBB.out HSS.out.1 HSS.out.2)
      have hsk := hs kk hlt
      have hstk : stUp es o st kk kk = st kk := by unfold stUp; rw [if_neg (by omega)]
      rw [hstk] at hsk
      have HQ := Lib.hid hq
      have HSL := Lib.hid hs
      obtain ⟨_, _, q3, q4, q5, q6, _, _⟩ := hq
      rw [hW1] at q5 q6
      have r1 := q3.at kk (by omega)
      have r2 := q4.at kk (by omega)
      have e1 : vals.getD kk 0 = vals[kk]'(by omega) := getD_lt 0 () (by omega)
      have e2 : ovs.getD kk (.bool false) = ovs[kk]'(by omega) := by simp [List.getD_eq_getElem?_getD, show kk < ovs.length by omega]
      rw [← e1] at r1
      rw [← e2] at r2
      obtain ⟨V, hV⟩ : ∃ V, V = vals.getD kk 0 := ⟨_, rfl⟩
      obtain ⟨O, hO⟩ : ∃ V, V = ovs.getD kk (.bool false) := ⟨_, rfl⟩
      rw [← hV, hW1] at r1
      rw [← hO, hW1] at r2
      obtain ⟨Z, hZ⟩ : ∃ Z, Z = cst es kk o := ⟨_, rfl⟩
      have hcells : kk = 0 ∧ Z = X0 ∨ kk = 1 ∧ Z = X1 ∨ kk = 2 ∧ Z = X2 := by
        have : kk = 0 ∨ kk = 1 ∨ kk = 2 := by omega
        rcases this with rfl | rfl | rfl
        · exact .inl ⟨rfl, hZ.trans HC0.out⟩
        · exact .inr (.inl ⟨rfl, hZ.trans HC1.out⟩)
        · exact .inr (.inr ⟨rfl, hZ.trans HC2.out⟩)
      have HSTEP : Hid (∀ (x : World), Bst N gP gv go (fun i => if i = kk then up1 Z o (st kk) else stUp es o st kk i) x → Bst N gP gv go (stUp es o st (kk + 1)) x) := by
        intro x hx
        refine bst_congr hx (fun i _ => ?_)
        rw [stUp_succ, hZ]
      have HPUT : Hid (∀ (x : World) (g2 c2 : Nat), Cmb N gP gv go W1 (vals.set kk Z) (ovs.set kk (.slice (some ⟨g2, 0, none⟩) k c2)) g2 c2 o x → up1 Z o (st kk) = some (Z, o) → Bst N gP gv go (stUp es o st (kk + 1)) x ∧ B2 N gv go w1 x) := by
        intro x g2 c2 hc hu
        refine ⟨HSTEP.out x ?_, HBB.out.trans hc.2.1⟩
        have h := bst_put (b := Z) HQ.out HSL.out (by rw [HO.out.len]; exact hc.1) hc.2.1 hc.2.2.1 hlt
        rw [hu]
        exact h
      have HOL : Hid (o.length = k) := HO.out.len
      have wi : IntKind.i64.wrap ((kk : Int) + 1) = (kk : Int) + 1 := IntWalk.i64_in _ (by omega)
      cases hsi : st kk with
      | none =>
        rw [hsi] at hsk
        have hOn : O = .slice none 0 0 := hO.trans hsk
        subst hOn
        have HU : Hid (up1 Z o (st kk) = some (Z, o)) := by show _ = _; rw [hsi]; rfl
        clear hs hsk hstk e1 e2 hV hO hZ hsi hBW hNW
        rcases hcells with ⟨rfl, rfl⟩ | ⟨rfl, rfl⟩ | ⟨rfl, rfl⟩
        · go_wp2_with fail
          rw [← hW1]
          have HK1 := Lib.hid (Kp.init HQ.out)
          clear r1 r2 q5 q6 q3 q4 hW1
          go_region_held3 (fun w' => w'.cell? ⟨gP, 0, none⟩ = some (.slice (some ⟨gv, 0, none⟩) 3 3) ∧ w'.cell? ⟨gP, 1, none⟩ = some (.slice (some ⟨go, 0, none⟩) 3 3) ∧ w'.cell? ⟨gv, 0, none⟩ = some (cellv w' ⟨gv, 0, none⟩) ∧ w'.cell? ⟨go, 0, none⟩ = some (cellv w' ⟨go, 0, none⟩) ∧ w'.frozen? ⟨gv, 0, none⟩ = false ∧ w'.frozen? ⟨go, 0, none⟩ = false ∧ Kp N gP gv go W1 w')
            ((refine keepS ?_ (by omega); (repeat (first | with_reducible exact HK1.out | with_reducible refine Kp.drew ?_ | with_reducible refine Kp.alloc ?_ _ | with_reducible refine Kp.setv ?_ _ _ | with_reducible refine Kp.seto ?_ _ _ | with_reducible refine Kp.below ?_ hb2))))
            ((first
              | (refine step_app (by rfl) (.tmp 66) (.tmp 67) 27 27 (by rfl) (by rfl) _ _ (by rfl) (by rfl) (owi_copyN (base := W1.heap.size) (ys := o) HOL.out.symm (by repeat (first | with_reducible refine arr_newE _ _ _ (by first | (simp; done) | (simp; omega) | omega) (by first | rfl | simp) | with_reducible refine Arr.drew ?_ | with_reducible refine Arr.alloc ?_ _)) (kp_cells (N := N) (gP := gP) HA.out (by (repeat (first | with_reducible exact HK1.out | with_reducible refine Kp.drew ?_ | with_reducible refine Kp.alloc ?_ _ | with_reducible refine Kp.setv ?_ _ _ | with_reducible refine Kp.seto ?_ _ _ | with_reducible refine Kp.below ?_ hb2))) HSS.out) (by first | (simp; done) | (simp; omega) | omega) (by have := HOL.out; omega)) ?_
                 rintro v2 w2 ⟨g2, c2, rfl, ho2, hb2⟩
                 have hs2 : W1.heap.size ≤ w2.heap.size := by have := hb2.size; (try simp at this); omega)))
          all_goals
            have hcm : Cmb N gP gv go W1 vals ovs g2 c2 o w2 := Cmb.init HQ.out (by (repeat (first | with_reducible exact Below.refl _ _ | with_reducible refine Below.drew ?_ | with_reducible refine Below.alloc ?_ (by first | (simp; done) | (simp; omega) | omega) _ | with_reducible refine Below.trans ?_ hb2))) ho2
            have HF := Lib.hid (HPUT.out _ g2 c2 (show Cmb N gP gv go W1 (vals.set 0 Z) (ovs.set 0 (.slice (some ⟨g2, 0, none⟩) k c2)) g2 c2 o ((w2.setCell ⟨gv, 0, none⟩ (.int .i64 Z)).setCell ⟨go, 0, none⟩ (.slice (some ⟨g2, 0, none⟩) k c2)) from (by repeat (first | with_reducible exact hcm | with_reducible refine Cmb.drew ?_ | with_reducible refine Cmb.setv ?_ _ _ | with_reducible refine Cmb.seto ?_ _ _))) HU.out)
            clear hcm ho2 hb2
            go_wp2_with fail
            go_roundw
            case rel => exact ⟨0 + 1, by go_num, by omega, Lib.hid HF.out.1, Lib.hid HF.out.2⟩
            case measure => simp [intOf]
        · go_wp2_with fail
          rw [← hW1]
          have HK1 := Lib.hid (Kp.init HQ.out)
          clear r1 r2 q5 q6 q3 q4 hW1
          go_region_held3 (fun w' => w'.cell? ⟨gP, 0, none⟩ = some (.slice (some ⟨gv, 0, none⟩) 3 3) ∧ w'.cell? ⟨gP, 1, none⟩ = some (.slice (some ⟨go, 0, none⟩) 3 3) ∧ w'.cell? ⟨gv, 1, none⟩ = some (cellv w' ⟨gv, 1, none⟩) ∧ w'.cell? ⟨go, 1, none⟩ = some (cellv w' ⟨go, 1, none⟩) ∧ w'.frozen? ⟨gv, 1, none⟩ = false ∧ w'.frozen? ⟨go, 1, none⟩ = false ∧ Kp N gP gv go W1 w')
            ((refine keepS ?_ (by omega); (repeat (first | with_reducible exact HK1.out | with_reducible refine Kp.drew ?_ | with_reducible refine Kp.alloc ?_ _ | with_reducible refine Kp.setv ?_ _ _ | with_reducible refine Kp.seto ?_ _ _ | with_reducible refine Kp.below ?_ hb2))))
            ((first
              | (refine step_app (by rfl) (.tmp 66) (.tmp 67) 27 27 (by rfl) (by rfl) _ _ (by rfl) (by rfl) (owi_copyN (base := W1.heap.size) (ys := o) HOL.out.symm (by repeat (first | with_reducible refine arr_newE _ _ _ (by first | (simp; done) | (simp; omega) | omega) (by first | rfl | simp) | with_reducible refine Arr.drew ?_ | with_reducible refine Arr.alloc ?_ _)) (kp_cells (N := N) (gP := gP) HA.out (by (repeat (first | with_reducible exact HK1.out | with_reducible refine Kp.drew ?_ | with_reducible refine Kp.alloc ?_ _ | with_reducible refine Kp.setv ?_ _ _ | with_reducible refine Kp.seto ?_ _ _ | with_reducible refine Kp.below ?_ hb2))) HSS.out) (by first | (simp; done) | (simp; omega) | omega) (by have := HOL.out; omega)) ?_
                 rintro v2 w2 ⟨g2, c2, rfl, ho2, hb2⟩
                 have hs2 : W1.heap.size ≤ w2.heap.size := by have := hb2.size; (try simp at this); omega)))
          all_goals
            have hcm : Cmb N gP gv go W1 vals ovs g2 c2 o w2 := Cmb.init HQ.out (by (repeat (first | with_reducible exact Below.refl _ _ | with_reducible refine Below.drew ?_ | with_reducible refine Below.alloc ?_ (by first | (simp; done) | (simp; omega) | omega) _ | with_reducible refine Below.trans ?_ hb2))) ho2
            have HF := Lib.hid (HPUT.out _ g2 c2 (show Cmb N gP gv go W1 (vals.set 1 Z) (ovs.set 1 (.slice (some ⟨g2, 0, none⟩) k c2)) g2 c2 o ((w2.setCell ⟨gv, 1, none⟩ (.int .i64 Z)).setCell ⟨go, 1, none⟩ (.slice (some ⟨g2, 0, none⟩) k c2)) from (by repeat (first | with_reducible exact hcm | with_reducible refine Cmb.drew ?_ | with_reducible refine Cmb.setv ?_ _ _ | with_reducible refine Cmb.seto ?_ _ _))) HU.out)
            clear hcm ho2 hb2
            go_wp2_with fail
            go_roundw
            case rel => exact ⟨1 + 1, by go_num, by omega, Lib.hid HF.out.1, Lib.hid HF.out.2⟩
            case measure => simp [intOf]
        · go_wp2_with fail
          rw [← hW1]
          have HK1 := Lib.hid (Kp.init HQ.out)
          clear r1 r2 q5 q6 q3 q4 hW1
          go_region_held3 (fun w' => w'.cell? ⟨gP, 0, none⟩ = some (.slice (some ⟨gv, 0, none⟩) 3 3) ∧ w'.cell? ⟨gP, 1, none⟩ = some (.slice (some ⟨go, 0, none⟩) 3 3) ∧ w'.cell? ⟨gv, 2, none⟩ = some (cellv w' ⟨gv, 2, none⟩) ∧ w'.cell? ⟨go, 2, none⟩ = some (cellv w' ⟨go, 2, none⟩) ∧ w'.frozen? ⟨gv, 2, none⟩ = false ∧ w'.frozen? ⟨go, 2, none⟩ = false ∧ Kp N gP gv go W1 w')
            ((refine keepS ?_ (by omega); (repeat (first | with_reducible exact HK1.out | with_reducible refine Kp.drew ?_ | with_reducible refine Kp.alloc ?_ _ | with_reducible refine Kp.setv ?_ _ _ | with_reducible refine Kp.seto ?_ _ _ | with_reducible refine Kp.below ?_ hb2))))
            ((first
              | (refine step_app (by rfl) (.tmp 66) (.tmp 67) 27 27 (by rfl) (by rfl) _ _ (by rfl) (by rfl) (owi_copyN (base := W1.heap.size) (ys := o) HOL.out.symm (by repeat (first | with_reducible refine arr_newE _ _ _ (by first | (simp; done) | (simp; omega) | omega) (by first | rfl | simp) | with_reducible refine Arr.drew ?_ | with_reducible refine Arr.alloc ?_ _)) (kp_cells (N := N) (gP := gP) HA.out (by (repeat (first | with_reducible exact HK1.out | with_reducible refine Kp.drew ?_ | with_reducible refine Kp.alloc ?_ _ | with_reducible refine Kp.setv ?_ _ _ | with_reducible refine Kp.seto ?_ _ _ | with_reducible refine Kp.below ?_ hb2))) HSS.out) (by first | (simp; done) | (simp; omega) | omega) (by have := HOL.out; omega)) ?_
                 rintro v2 w2 ⟨g2, c2, rfl, ho2, hb2⟩
                 have hs2 : W1.heap.size ≤ w2.heap.size := by have := hb2.size; (try simp at this); omega)))
          all_goals
            have hcm : Cmb N gP gv go W1 vals ovs g2 c2 o w2 := Cmb.init HQ.out (by (repeat (first | with_reducible exact Below.refl _ _ | with_reducible refine Below.drew ?_ | with_reducible refine Below.alloc ?_ (by first | (simp; done) | (simp; omega) | omega) _ | with_reducible refine Below.trans ?_ hb2))) ho2
            have HF := Lib.hid (HPUT.out _ g2 c2 (show Cmb N gP gv go W1 (vals.set 2 Z) (ovs.set 2 (.slice (some ⟨g2, 0, none⟩) k c2)) g2 c2 o ((w2.setCell ⟨gv, 2, none⟩ (.int .i64 Z)).setCell ⟨go, 2, none⟩ (.slice (some ⟨g2, 0, none⟩) k c2)) from (by repeat (first | with_reducible exact hcm | with_reducible refine Cmb.drew ?_ | with_reducible refine Cmb.setv ?_ _ _ | with_reducible refine Cmb.seto ?_ _ _))) HU.out)
            clear hcm ho2 hb2
            go_wp2_with fail
            go_roundw
            case rel => exact ⟨2 + 1, by go_num, by omega, Lib.hid HF.out.1, Lib.hid HF.out.2⟩
            case measure => simp [intOf]
      | some bp =>
        obtain ⟨b, p⟩ := bp
        rw [hsi] at hsk
        obtain ⟨hvb, g9, c9, hov, _⟩ := hsk
        have hOn : O = .slice (some ⟨g9, 0, none⟩) p.length c9 := hO.trans hov
        have hVb : V = b := hV.trans hvb
        subst hOn hVb
        obtain ⟨P, hP⟩ : ∃ P, P = p.length := ⟨_, rfl⟩
        rw [← hP] at r2
        by_cases hzb : Z < V
        · have HU : Hid (up1 Z o (st kk) = some (Z, o)) := by show _ = _; rw [hsi]; unfold up1; exact if_pos hzb
          clear hs hstk e1 e2 hV hO hZ hsi hBW hNW hvb hov hP
          rcases hcells with ⟨rfl, rfl⟩ | ⟨rfl, rfl⟩ | ⟨rfl, rfl⟩
          · go_wp2_with fail
            rw [← hW1]
            have HK1 := Lib.hid (Kp.init HQ.out)
            clear r1 r2 q5 q6 q3 q4 hW1
            go_region_held3 (fun w' => w'.cell? ⟨gP, 0, none⟩ = some (.slice (some ⟨gv, 0, none⟩) 3 3) ∧ w'.cell? ⟨gP, 1, none⟩ = some (.slice (some ⟨go, 0, none⟩) 3 3) ∧ w'.cell? ⟨gv, 0, none⟩ = some (cellv w' ⟨gv, 0, none⟩) ∧ w'.cell? ⟨go, 0, none⟩ = some (cellv w' ⟨go, 0, none⟩) ∧ w'.frozen? ⟨gv, 0, none⟩ = false ∧ w'.frozen? ⟨go, 0, none⟩ = false ∧ Kp N gP gv go W1 w')
              ((refine keepS ?_ (by omega); (repeat (first | with_reducible exact HK1.out | with_reducible refine Kp.drew ?_ | with_reducible refine Kp.alloc ?_ _ | with_reducible refine Kp.setv ?_ _ _ | with_reducible refine Kp.seto ?_ _ _ | with_reducible refine Kp.below ?_ hb2))))
              ((first
                | (refine step_app (by rfl) (.tmp 66) (.tmp 67) 27 27 (by rfl) (by rfl) _ _ (by rfl) (by rfl) (owi_copyN (base := W1.heap.size) (ys := o) HOL.out.symm (by repeat (first | with_reducible refine arr_newE _ _ _ (by first | (simp; done) | (simp; omega) | omega) (by first | rfl | simp) | with_reducible refine Arr.drew ?_ | with_reducible refine Arr.alloc ?_ _)) (kp_cells (N := N) (gP := gP) HA.out (by (repeat (first | with_reducible exact HK1.out | with_reducible refine Kp.drew ?_ | with_reducible refine Kp.alloc ?_ _ | with_reducible refine Kp.setv ?_ _ _ | with_reducible refine Kp.seto ?_ _ _ | with_reducible refine Kp.below ?_ hb2))) HSS.out) (by first | (simp; done) | (simp; omega) | omega) (by have := HOL.out; omega)) ?_
                   rintro v2 w2 ⟨g2, c2, rfl, ho2, hb2⟩
                   have hs2 : W1.heap.size ≤ w2.heap.size := by have := hb2.size; (try simp at this); omega)))
            all_goals
              have hcm : Cmb N gP gv go W1 vals ovs g2 c2 o w2 := Cmb.init HQ.out (by (repeat (first | with_reducible exact Below.refl _ _ | with_reducible refine Below.drew ?_ | with_reducible refine Below.alloc ?_ (by first | (simp; done) | (simp; omega) | omega) _ | with_reducible refine Below.trans ?_ hb2))) ho2
              have HF := Lib.hid (HPUT.out _ g2 c2 (show Cmb N gP gv go W1 (vals.set 0 Z) (ovs.set 0 (.slice (some ⟨g2, 0, none⟩) k c2)) g2 c2 o ((w2.setCell ⟨gv, 0, none⟩ (.int .i64 Z)).setCell ⟨go, 0, none⟩ (.slice (some ⟨g2, 0, none⟩) k c2)) from (by repeat (first | with_reducible exact hcm | with_reducible refine Cmb.drew ?_ | with_reducible refine Cmb.setv ?_ _ _ | with_reducible refine Cmb.seto ?_ _ _))) HU.out)
              clear hcm ho2 hb2
              go_wp2_with fail
              go_roundw
              case rel => exact ⟨0 + 1, by go_num, by omega, Lib.hid HF.out.1, Lib.hid HF.out.2⟩
              case measure => simp [intOf]
          · go_wp2_with fail
            rw [← hW1]
            have HK1 := Lib.hid (Kp.init HQ.out)
            clear r1 r2 q5 q6 q3 q4 hW1
            go_region_held3 (fun w' => w'.cell? ⟨gP, 0, none⟩ = some (.slice (some ⟨gv, 0, none⟩) 3 3) ∧ w'.cell? ⟨gP, 1, none⟩ = some (.slice (some ⟨go, 0, none⟩) 3 3) ∧ w'.cell? ⟨gv, 1, none⟩ = some (cellv w' ⟨gv, 1, none⟩) ∧ w'.cell? ⟨go, 1, none⟩ = some (cellv w' ⟨go, 1, none⟩) ∧ w'.frozen? ⟨gv, 1, none⟩ = false ∧ w'.frozen? ⟨go, 1, none⟩ = false ∧ Kp N gP gv go W1 w')
              ((refine keepS ?_ (by omega); (repeat (first | with_reducible exact HK1.out | with_reducible refine Kp.drew ?_ | with_reducible refine Kp.alloc ?_ _ | with_reducible refine Kp.setv ?_ _ _ | with_reducible refine Kp.seto ?_ _ _ | with_reducible refine Kp.below ?_ hb2))))
              ((first
                | (refine step_app (by rfl) (.tmp 66) (.tmp 67) 27 27 (by rfl) (by rfl) _ _ (by rfl) (by rfl) (owi_copyN (base := W1.heap.size) (ys := o) HOL.out.symm (by repeat (first | with_reducible refine arr_newE _ _ _ (by first | (simp; done) | (simp; omega) | omega) (by first | rfl | simp) | with_reducible refine Arr.drew ?_ | with_reducible refine Arr.alloc ?_ _)) (kp_cells (N := N) (gP := gP) HA.out (by (repeat (first | with_reducible exact HK1.out | with_reducible refine Kp.drew ?_ | with_reducible refine Kp.alloc ?_ _ | with_reducible refine Kp.setv ?_ _ _ | with_reducible refine Kp.seto ?_ _ _ | with_reducible refine Kp.below ?_ hb2))) HSS.out) (by first | (simp; done) | (simp; omega) | omega) (by have := HOL.out; omega)) ?_
                   rintro v2 w2 ⟨g2, c2, rfl, ho2, hb2⟩
                   have hs2 : W1.heap.size ≤ w2.heap.size := by have := hb2.size; (try simp at this); omega)))
            all_goals
              have hcm : Cmb N gP gv go W1 vals ovs g2 c2 o w2 := Cmb.init HQ.out (by (repeat (first | with_reducible exact Below.refl _ _ | with_reducible refine Below.drew ?_ | with_reducible refine Below.alloc ?_ (by first | (simp; done) | (simp; omega) | omega) _ | with_reducible refine Below.trans ?_ hb2))) ho2
              have HF := Lib.hid (HPUT.out _ g2 c2 (show Cmb N gP gv go W1 (vals.set 1 Z) (ovs.set 1 (.slice (some ⟨g2, 0, none⟩) k c2)) g2 c2 o ((w2.setCell ⟨gv, 1, none⟩ (.int .i64 Z)).setCell ⟨go, 1, none⟩ (.slice (some ⟨g2, 0, none⟩) k c2)) from (by repeat (first | with_reducible exact hcm | with_reducible refine Cmb.drew ?_ | with_reducible refine Cmb.setv ?_ _ _ | with_reducible refine Cmb.seto ?_ _ _))) HU.out)
              clear hcm ho2 hb2
              go_wp2_with fail
              go_roundw
              case rel => exact ⟨1 + 1, by go_num, by omega, Lib.hid HF.out.1, Lib.hid HF.out.2⟩
              case measure => simp [intOf]
          · go_wp2_with fail
            rw [← hW1]
            have HK1 := Lib.hid (Kp.init HQ.out)
            clear r1 r2 q5 q6 q3 q4 hW1
            go_region_held3 (fun w' => w'.cell? ⟨gP, 0, none⟩ = some (.slice (some ⟨gv, 0, none⟩) 3 3) ∧ w'.cell? ⟨gP, 1, none⟩ = some (.slice (some ⟨go, 0, none⟩) 3 3) ∧ w'.cell? ⟨gv, 2, none⟩ = some (cellv w' ⟨gv, 2, none⟩) ∧ w'.cell? ⟨go, 2, none⟩ = some (cellv w' ⟨go, 2, none⟩) ∧ w'.frozen? ⟨gv, 2, none⟩ = false ∧ w'.frozen? ⟨go, 2, none⟩ = false ∧ Kp N gP gv go W1 w')
              ((refine keepS ?_ (by omega); (repeat (first | with_reducible exact HK1.out | with_reducible refine Kp.drew ?_ | with_reducible refine Kp.alloc ?_ _ | with_reducible refine Kp.setv ?_ _ _ | with_reducible refine Kp.seto ?_ _ _ | with_reducible refine Kp.below ?_ hb2))))
              ((first
                | (refine step_app (by rfl) (.tmp 66) (.tmp 67) 27 27 (by rfl) (by rfl) _ _ (by rfl) (by rfl) (owi_copyN (base := W1.heap.size) (ys := o) HOL.out.symm (by repeat (first | with_reducible refine arr_newE _ _ _ (by first | (simp; done) | (simp; omega) | omega) (by first | rfl | simp) | with_reducible refine Arr.drew ?_ | with_reducible refine Arr.alloc ?_ _)) (kp_cells (N := N) (gP := gP) HA.out (by (repeat (first | with_reducible exact HK1.out | with_reducible refine Kp.drew ?_ | with_reducible refine Kp.alloc ?_ _ | with_reducible refine Kp.setv ?_ _ _ | with_reducible refine Kp.seto ?_ _ _ | with_reducible refine Kp.below ?_ hb2))) HSS.out) (by first | (simp; done) | (simp; omega) | omega) (by have := HOL.out; omega)) ?_
                   rintro v2 w2 ⟨g2, c2, rfl, ho2, hb2⟩
                   have hs2 : W1.heap.size ≤ w2.heap.size := by have := hb2.size; (try simp at this); omega)))
            all_goals
              have hcm : Cmb N gP gv go W1 vals ovs g2 c2 o w2 := Cmb.init HQ.out (by (repeat (first | with_reducible exact Below.refl _ _ | with_reducible refine Below.drew ?_ | with_reducible refine Below.alloc ?_ (by first | (simp; done) | (simp; omega) | omega) _ | with_reducible refine Below.trans ?_ hb2))) ho2
              have HF := Lib.hid (HPUT.out _ g2 c2 (show Cmb N gP gv go W1 (vals.set 2 Z) (ovs.set 2 (.slice (some ⟨g2, 0, none⟩) k c2)) g2 c2 o ((w2.setCell ⟨gv, 2, none⟩ (.int .i64 Z)).setCell ⟨go, 2, none⟩ (.slice (some ⟨g2, 0, none⟩) k c2)) from (by repeat (first | with_reducible exact hcm | with_reducible refine Cmb.drew ?_ | with_reducible refine Cmb.setv ?_ _ _ | with_reducible refine Cmb.seto ?_ _ _))) HU.out)
              clear hcm ho2 hb2
              go_wp2_with fail
              go_roundw
              case rel => exact ⟨2 + 1, by go_num, by omega, Lib.hid HF.out.1, Lib.hid HF.out.2⟩
              case measure => simp [intOf]
        · have HU : Hid (Bst N gP gv go (stUp es o st (kk + 1)) W1) := by
            refine HSTEP.out W1 (bst_congr ⟨vals, ovs, HQ.out, HSL.out⟩ (fun i _ => ?_))
            by_cases e : i = kk
            · subst e
              rw [if_pos rfl, hstk, hsi]
              unfold up1
              exact (if_neg hzb).symm
            · rw [if_neg e]
          clear hs hstk e1 e2 hV hO hZ hsi hBW hNW hvb hov hP
          rcases hcells with ⟨rfl, rfl⟩ | ⟨rfl, rfl⟩ | ⟨rfl, rfl⟩
          all_goals
            go_wp2_with fail
            rw [← hW1]
            clear r1 r2 q5 q6 q3 q4 hW1
            go_roundw
            case rel => exact ⟨_, by go_num, by omega, HU, HBB⟩
            case measure => simp [intOf]
    · have e : kk = 3 := by omega
      subst e
      go_wp2_with fail
      refine bodyPost_ret (results_none rfl _ _ _) rfl ?_
      exact ⟨rfl, HS.out, HB2.out.trans HBB.out⟩
end Go.Proofs.Ytlidnhmagleehaa
