/- What is proved: the law of one more wire (G6). No condition beyond those in each statement. -/
import Derived.Test.YtlidnhmagleehaaT
import Derived.Deep.AppendLies
namespace Go.Proofs.Ytlidnhmagleehaa
open Go.RowKit

theorem OwE.drew {w : World} {base g c : Nat} {es : List (Int × Int)} (h : OwE w base g c es) : OwE w.drew base g c es := h
theorem OwE.alloc {w : World} {base g c : Nat} {es : List (Int × Int)} (h : OwE w base g c es) (o : Obj) : OwE (w.alloc o) base g c es := World.ownsRow.alloc h _
/-- The cells of a pair in a block of its own. -/
def NB (w : World) (b : Nat) (x y : Int) : Prop := b < w.heap.size ∧ w.cell? ⟨b, 0, none⟩ = some (.int .i64 x) ∧ w.cell? ⟨b, 1, none⟩ = some (.int .i64 y)
theorem nb_new (w : World) (x y : Int) : NB (w.alloc (.cells #[.int .i64 x, .int .i64 y] 55)) w.heap.size x y :=
  ⟨by simp, World.cell?_alloc_at _ _ _ _ rfl, World.cell?_alloc_at _ _ _ _ rfl⟩
theorem NB.drew {w : World} {b : Nat} {x y : Int} (h : NB w b x y) : NB w.drew b x y := h
theorem NB.alloc {w : World} {b : Nat} {x y : Int} (h : NB w b x y) (o : Obj) : NB (w.alloc o) b x y :=
  have hb : Below w.heap.size w (w.alloc o) := (Below.refl _ w).alloc (Nat.le_refl _) o
  ⟨Nat.lt_of_lt_of_le h.1 hb.size, (hb.cell (p := ⟨b, 0, none⟩) h.1).trans h.2.1, (hb.cell (p := ⟨b, 1, none⟩) h.1).trans h.2.2⟩
/-- What an append leaves. -/
def AppR (W : World) (base g : Nat) (es : List (Int × Int)) (v' : Value) (w' : World) : Prop :=
  ∃ g' c', v' = .slice (some ⟨g', 0, none⟩) es.length c' ∧ OwE w' base g' c' es ∧ Below base W w' ∧ ∀ b x y, b ≠ g → NB W b x y → NB w' b x y
theorem owe_app {w : World} {base g c : Nat} {es fs : List (Int × Int)} {a : Addr} {cf : Nat} (h : OwE w base g c es) (hF : ∀ j u, (pairC fs)[j]? = some u → w.cell? (a.add j) = some u) (hb : base ≤ w.heap.size) (hl : es.length + fs.length ≤ 1000) :
    ∃ v' w', (Builtin.append_ #[22, 22] 22 #[.slice (some ⟨g, 0, none⟩) es.length c, .slice (some a) fs.length cf]).run Try.prog w = .ok v' w' ∧ AppR w base g (es ++ fs) v' w' := by
  obtain ⟨i0, hi, hz0, hz1, hz2⟩ := info_parts info55
  have hone : ∀ u ∈ pairC fs, u.oneCell' = true := by
    intro u hu
    unfold pairC at hu
    obtain ⟨e, _, he⟩ := List.mem_flatMap.1 hu
    simp at he
    rcases he with rfl | rfl <;> rfl
  obtain ⟨v', w', hrun, r1, r2, r3⟩ := run_append_own (P := Try.prog) w base 22 22 55 i0 (.agg #[.int .i64 0, .int .i64 0]) 2 16 Try.underlying22 hi hz0 hz1 hz2 rfl (by decide) _ es.length (pairC es) h a fs.length cf (pairC fs) (pairC_len fs) hF hone (by simp [maxLen]; omega) (by omega) hb
  have hB : Below base w w' := (Below.refl _ w).grown r2 hb (fun k hk => (World.ownsRow.lt h k hk).1)
  refine ⟨v', w', hrun, ?_⟩
  have hpc : pairC es ++ pairC fs = pairC (es ++ fs) := by simp [pairC]
  rw [hpc, ← List.length_append] at r1
  rcases r1.2 with ⟨h', h''⟩ | ⟨g', cap, cur, e, hr⟩
  · exact absurd (r3.1 h').1 (by simp)
  · subst e
    refine ⟨g', cap, rfl, r1, hB, fun b x y hne hn => ?_⟩
    have f (o : Nat) : w'.cell? ⟨b, o, none⟩ = w.cell? ⟨b, o, none⟩ := World.grownBy.cell_far r2 ⟨b, o, none⟩ hn.1 (by simpa [Value.ownBlock] using hne)
    have c0 := (f 0).trans hn.2.1
    exact ⟨World.block_lt_of_cell? _ _ c0, c0, (f 1).trans hn.2.2⟩
theorem owe_copy {w : World} {base g b c : Nat} {es : List (Int × Int)} (h : OwE w base g 0 []) (hF : RdE w (some ⟨b, 0, none⟩) es) (hb : base ≤ w.heap.size) (hl : es.length ≤ 1000) :
    ∃ v' w', (Builtin.append_ #[22, 22] 22 #[.slice (some ⟨g, 0, none⟩) 0 0, .slice (some ⟨b, 0, none⟩) es.length c]).run Try.prog w = .ok v' w' ∧ AppR w base g es v' w' := by
  refine owe_app (es := []) h (fun j u hj => ?_) hb (by simpa using hl)
  have hlt := (List.getElem?_eq_some_iff.1 hj).1
  rw [pairC_len] at hlt
  obtain ⟨b', o', e, _, hc⟩ := hF (fun e => by subst e; simp at hlt)
  cases e
  obtain ⟨q0, q1⟩ := hc (j / 2) (by omega)
  obtain ⟨p0, p1⟩ := pairC_get es (j / 2) (by omega)
  rw [Nat.zero_add] at q0 q1
  rw [addr_add, Nat.zero_add]
  rcases Nat.mod_two_eq_zero_or_one j with hm | hm
  · have e : j / 2 * 2 = j := by omega
    rw [e] at q0 p0
    rw [hj] at p0; cases p0; exact q0
  · have e : j / 2 * 2 + 1 = j := by omega
    rw [e] at q1 p1
    rw [hj] at p1; cases p1; exact q1
theorem owe_one {w : World} {base g b c cb : Nat} {es : List (Int × Int)} {x y : Int} (h : OwE w base g c es) (hF : NB w b x y) (hb : base ≤ w.heap.size) (hl : es.length ≤ 999) :
    ∃ v' w', (Builtin.append_ #[22, 22] 22 #[.slice (some ⟨g, 0, none⟩) es.length c, .slice (some ⟨b, 0, none⟩) 1 cb]).run Try.prog w = .ok v' w' ∧ AppR w base g (es ++ [(x, y)]) v' w' := by
  refine owe_app (fs := [(x, y)]) h (fun j u hj => ?_) hb (by simpa using hl)
  rw [addr_add, Nat.zero_add]
  match j, hj with
  | 0, hj => cases hj; exact hF.2.1
  | 1, hj => cases hj; exact hF.2.2
/-- An append at a step of a region of open order. -/
theorem step_app {P : Program} {W : World} {ops : Array Oper} {o : Oper} {a : Act} {K : Act → World → Prop} {Q : Exit → Act → World → Prop} {E : Prop} {R : Value → World → Prop} (hgd : o.guard = none) (s x : Operand) (t ty : TypeId)
    (ho : o.op = .call { callee := .builtin .append, args := #[s, x], argTypes := #[t, t] }) (hty : o.type = ty) (v1 v2 : Value) (hs : a.eval s = v1) (hx : a.eval x = v2)
    (hrun : ∃ v' w', (Builtin.append_ #[t, t] ty #[v1, v2]).run P W = .ok v' w' ∧ R v' w') (hK : ∀ v' w', R v' w' → K (a.put o.dst v') w') :
    if Region.wanted o (yielded ops a.tmps) = true then Oper.wp P o a W K Q else E := by
  have hw : Region.wanted o (yielded ops a.tmps) = true := by simp [Region.wanted, hgd]
  rw [if_pos hw]
  obtain ⟨v', w', hr, hR⟩ := hrun
  unfold Oper.wp
  simp [execOp, ho, hty, resolve, invoke, builtin, hs, hx, hr, Result.andThen]
  exact hK _ _ hR
theorem keepU {b : Nat} {q : Value} {w1 w' : World} (hb : b < w1.heap.size) (c1 : w1.cell? ⟨b, 1, none⟩ = some q) (h : Below w1.heap.size w1 w') : w'.cell? ⟨b, 1, none⟩ = some q ∧ Below w1.heap.size w1 w' := ⟨(h.cell (p := ⟨b, 1, none⟩) hb).trans c1, h⟩
theorem owe_newE (w : World) (base g : Nat) (hb : base ≤ w.heap.size) (hg : w.heap.size = g) : OwE (w.alloc (.cells #[] 55)) base g 0 [] := hg ▸ owe_new w base hb
theorem nb_newE (w : World) (b : Nat) (x y : Int) (hg : w.heap.size = b) : NB (w.alloc (.cells #[.int .i64 x, .int .i64 y] 55)) b x y := hg ▸ nb_new w x y
theorem keep6 {w w' : World} {p1 p2 p3 p4 p5 p6 : Addr} {v1 v2 v3 v4 v5 v6 : Value} (h1 : w.cell? p1 = some v1) (h2 : w.cell? p2 = some v2) (h3 : w.cell? p3 = some v3) (h4 : w.cell? p4 = some v4) (h5 : w.cell? p5 = some v5) (h6 : w.cell? p6 = some v6) (hb : Below w.heap.size w w') :
    w'.cell? p1 = some v1 ∧ w'.cell? p2 = some v2 ∧ w'.cell? p3 = some v3 ∧ w'.cell? p4 = some v4 ∧ w'.cell? p5 = some v5 ∧ w'.cell? p6 = some v6 ∧ Below w.heap.size w w' :=
  ⟨(hb.cell (World.block_lt_of_cell? _ _ h1)).trans h1, (hb.cell (World.block_lt_of_cell? _ _ h2)).trans h2, (hb.cell (World.block_lt_of_cell? _ _ h3)).trans h3, (hb.cell (World.block_lt_of_cell? _ _ h4)).trans h4, (hb.cell (World.block_lt_of_cell? _ _ h5)).trans h5, (hb.cell (World.block_lt_of_cell? _ _ h6)).trans h6, hb⟩
def MoreR (w1 : World) (es : List (Int × Int)) (v : Value) (wx : World) : Prop :=
  ∃ g c, v = .slice (some ⟨g, 0, none⟩) es.length c ∧ OwE wx w1.heap.size g c es ∧ Below w1.heap.size w1 wx
set_option maxHeartbeats 4000000 in
theorem morelaw_calls (x : Int) (A : Option Addr) (m c : Nat) (ps : List (Int × Int)) (p q : Int) (w : World) (hx : 0 ≤ x ∧ x ≤ 255) (hm : m = ps.length) (hA : RdP w A ps) (hl : m ≤ c) (hc : c ≤ 9223372036854775807) (hps : ∀ p ∈ ps, (0 ≤ p.1 ∧ p.1 ≤ 255) ∧ (0 ≤ p.2 ∧ p.2 ≤ 255)) (hp : 0 ≤ p ∧ p ≤ 255) (hq : 0 ≤ q ∧ q ≤ 255) :
    Calls Try.prog 8 #[.int .u8 x, .slice A m c, .agg #[.int .u8 p, .int .u8 q]] w fun e w' => e = .returned (.bool true) ∧ Below w.heap.size w w' := by
  have CM := Lib.hid (fun (W : World) (h : RdP W A ps) => made_calls x A m c ps 7 W hx (by omega) hm h hl hc hps)
  have HA := Lib.hid hA
  clear hm hA hps
  go_enter Try.func8, Try.ntmps8
  go_wp2_with fail
  have bel0 : Below w.heap.size w (w.alloc (.cells #[.int .u8 p, .int .u8 q] 57)) := (Below.refl _ w).alloc (Nat.le_refl _) _
  refine (CM.out _ (HA.out.below bel0)).mono ?_
  rintro e w1 ⟨k, es, g, cg, hk, h20, hg, rfl, ho, hB⟩
  have hsz : (w.alloc (.cells #[.int .u8 p, .int .u8 q] 57)).heap.size = w.heap.size + 1 := by simp
  have c0 : w1.cell? ⟨w.heap.size, 0, none⟩ = some (.int .u8 p) := (hB.cell (p := ⟨w.heap.size, 0, none⟩) (by rw [hsz]; simp)).trans (World.cell?_alloc_at _ _ _ _ rfl)
  have c1 : w1.cell? ⟨w.heap.size, 1, none⟩ = some (.int .u8 q) := (hB.cell (p := ⟨w.heap.size, 1, none⟩) (by rw [hsz]; simp)).trans (World.cell?_alloc_at _ _ _ _ rfl)
  have HW := Lib.hid (bel0.trans (hB.mono bel0.size))
  have hgb : w.heap.size + 1 ≤ g := by rw [← hsz]; exact (World.ownsRow.lt ho g rfl).1
  by_cases hk2 : k < 2
  · clear ho hB c0 c1
    have t0 : decide ((k : Int) < 2) = true := decide_eq_true (by omega)
    go_wp2_with fail
    refine (lives_calls _).mono ?_
    rintro e x9 ⟨rfl, hB⟩
    have HX9 := Lib.hid (HW.out.trans (hB.mono HW.out.size))
    clear hB
    go_wp2_with fail
    go_ret
    exact ⟨rfl, HX9.out⟩
  · have t0 : decide ((k : Int) < 2) = false := decide_eq_false (by omega)
    have hbd := ho.bd
    obtain ⟨q1, q2⟩ := hp
    obtain ⟨q3, q4⟩ := hq
    have a1 := Int.emod_nonneg p (by omega : (k : Int) ≠ 0)
    have a2 := Int.emod_lt_of_pos p (by omega : 0 < (k : Int))
    obtain ⟨a, ha⟩ : ∃ a : Int, p % k = a := ⟨_, rfl⟩
    rw [ha] at a1 a2
    have b1 := Int.emod_nonneg q (by omega : (k : Int) - 1 ≠ 0)
    have b2 := Int.emod_lt_of_pos q (by omega : 0 < (k : Int) - 1)
    obtain ⟨bb, hbb⟩ : ∃ a : Int, q % ((k : Int) - 1) = a := ⟨_, rfl⟩
    rw [hbb] at b1 b2
    have c1' := Int.emod_nonneg (a + 1 + bb) (by omega : (k : Int) ≠ 0)
    have c2' := Int.emod_lt_of_pos (a + 1 + bb) (by omega : 0 < (k : Int))
    obtain ⟨cc, hcc⟩ : ∃ z : Int, (a + 1 + bb) % k = z := ⟨_, rfl⟩
    have hne : a ≠ cc := by
      rw [← hcc]
      by_cases hlt : a + 1 + bb < k
      · rw [Int.emod_eq_of_lt (by omega) hlt]; omega
      · rw [show (a + 1 + bb) % k = (a + 1 + bb - k) % k by rw [Int.sub_emod_right], Int.emod_eq_of_lt (by omega) (by omega)]; omega
    rw [hcc] at c1' c2'
    have u1 : Int.tmod p k = a := by rw [← ha]; exact Int.tmod_eq_emod_of_nonneg q1
    have u2 : Int.tmod q ((k : Int) - 1) = bb := by rw [← hbb]; exact Int.tmod_eq_emod_of_nonneg q3
    have u3 : Int.tmod (a + 1 + bb) k = cc := by rw [← hcc]; exact Int.tmod_eq_emod_of_nonneg (by omega)
    have hk0z : ((k : Int) == 0) = false := by rw [beq_eq_false_iff_ne]; omega
    have hk1z : ((k : Int) - 1 == 0) = false := by rw [beq_eq_false_iff_ne]; omega
    have hk0a : ¬ ((k : Int) = 0) := by omega
    have hk0c : ¬ (k = 0) := by omega
    have hk1a : ¬ ((k : Int) - 1 = 0) := by omega
    have hk1b : ¬ ((k : Int) = 1) := by omega
    have hk1c : ¬ (k = 1) := by omega
    have hk1d : ((k : Int) == 1) = false := by rw [beq_eq_false_iff_ne]; omega
    have HG2 : Hid (IsG k (es ++ [(a, cc)])) := by
      intro e he
      rcases List.mem_append.1 he with he | he
      · exact hg e he
      · have : e = (a, cc) := by simpa using he
        subst this
        exact ⟨⟨a1, a2⟩, ⟨c1', c2'⟩, hne⟩
    have HG := Lib.hid hg
    have v1 : IntKind.i64.wrap ((k : Int) - 1) = (k : Int) - 1 := IntWalk.i64_in _ (by omega)
    have v2 : IntKind.i64.wrap (a + 1) = a + 1 := IntWalk.i64_in _ (by omega)
    have vq : IntKind.i64.wrap q = q := IntWalk.i64_in _ (by omega)
    have vp : IntKind.i64.wrap p = p := IntWalk.i64_in _ (by omega)
    have v4 : IntKind.i64.wrap bb = bb := IntWalk.i64_in _ (by omega)
    have v5 : IntKind.i64.wrap cc = cc := IntWalk.i64_in _ (by omega)
    have v3 : IntKind.i64.wrap (a + 1 + bb) = a + 1 + bb := IntWalk.i64_in _ (by omega)
    clear hg hB ha hbb hcc
    go_wp2_with fail
    have hbs : w.heap.size < w1.heap.size := World.block_lt_of_cell? _ _ c1
    have HE := Lib.hid ho.rd
    have BR : Hid (Below w1.heap.size w1 w1) := Below.refl _ _
    go_cut [10] from 24 to 47 (fun q wx => Hid (MoreR w1 (es ++ [(a, cc)]) q wx))
    case first =>
      go_region_held3 (fun w' => w'.cell? ⟨w.heap.size, 1, none⟩ = some (.int .u8 q) ∧ Below w1.heap.size w1 w')
        ((refine keepU hbs c1 ?_; repeat (first | with_reducible exact Below.refl _ _ | with_reducible assumption | with_reducible refine Below.drew ?_ | with_reducible refine Below.alloc ?_ (by first | (simp; done) | (simp; omega) | omega) _ | with_reducible refine Below.trans ?_ hb3 | with_reducible refine Below.trans ?_ hb2)))
        ((first
          | (refine step_app (by rfl) (.tmp 29) (.tmp 30) 22 22 (by rfl) (by rfl) _ _ (by rfl) (by rfl) (owe_copy (base := w1.heap.size) (by repeat (first | with_reducible refine owe_newE _ _ _ (by first | (simp; done) | (simp; omega) | omega) (by first | rfl | simp) | with_reducible refine OwE.drew ?_ | with_reducible refine OwE.alloc ?_ _)) (HE.out.below (by repeat (first | with_reducible exact Below.refl _ _ | with_reducible refine Below.drew ?_ | with_reducible refine Below.alloc ?_ (by first | (simp; done) | (simp; omega) | omega) _))) (by first | (simp; done) | (simp; omega) | omega) (by omega)) ?_
             rintro v2 w2 ⟨g2, c2, rfl, ho2, hb2, hn2⟩
             have hs2 : w1.heap.size ≤ w2.heap.size := by have := hb2.size; (try simp at this); omega)
          | (refine step_app (by rfl) (.tmp 31) (.tmp 45) 22 22 (by rfl) (by rfl) _ _ (by rfl) (by rfl) (owe_one (base := w1.heap.size) (x := a) (y := cc) (by repeat (first | with_reducible exact ho2 | with_reducible refine OwE.drew ?_ | with_reducible refine OwE.alloc ?_ _)) (by
              first
              | (repeat (first | with_reducible refine nb_newE _ _ _ _ (by first | rfl | simp) | with_reducible refine NB.drew ?_ | with_reducible refine NB.alloc ?_ _))
                done
              | (repeat (first | with_reducible refine nb_newE _ _ _ _ (by first | rfl | simp) | with_reducible refine NB.drew ?_ | with_reducible refine NB.alloc ?_ _ | with_reducible refine hn2 _ _ _ (by omega) ?_))) (by first | (simp; done) | (simp; omega) | omega) (by omega)) ?_
             rintro v3 w3 ⟨g3, c3, rfl, ho3, hb3, hn3⟩
             have hs3 : w1.heap.size ≤ w3.heap.size := by have := hb3.size; (try simp at this); omega)))
      all_goals (go_wp2_with fail)
      all_goals go_meet
      all_goals exact Lib.hid ⟨g3, c3, by simp, ho3, by (repeat (first | with_reducible exact Below.refl _ _ | with_reducible refine Below.drew ?_ | with_reducible refine Below.alloc ?_ (by first | (simp; done) | (simp; omega) | omega) _ | with_reducible refine Below.trans ?_ hb3 | with_reducible refine Below.trans ?_ hb2))⟩
    case rest =>
      obtain ⟨g3, c3, rfl, ho3, hB3⟩ := hcut.out
      clear c0 c1 ho
      have HG2' := HG2.out
      obtain ⟨b1, p1, l1⟩ := least_ex (costB es) k
      obtain ⟨b2, p2, l2⟩ := least_ex (costC es) k
      obtain ⟨b3, p3, l3⟩ := least_ex (costS es) k
      obtain ⟨d1, y1, m1⟩ := least_ex (costB (es ++ [(a, cc)])) k
      obtain ⟨d2, y2, m2⟩ := least_ex (costC (es ++ [(a, cc)])) k
      obtain ⟨d3, y3, m3⟩ := least_ex (costS (es ++ [(a, cc)])) k
      obtain ⟨f1, f2, f3⟩ := more_law HG2' l1 l2 l3 m1 m2 m3
      have hbd3 := ho3.bd
      have HF := Lib.hid ho3.rd
      have HE := Lib.hid (HE.out.below hB3)
      have HW := Lib.hid (HW.out.trans (hB3.mono HW.out.size))
      have CL := Lib.hid (fun (W : World) (h : RdE W (some ⟨g, 0, none⟩) es) => least_calls k (by omega) (some ⟨g, 0, none⟩) es.length cg es W rfl (by omega) HG.out h hbd.1 hbd.2 l1 l2 l3)
      have CN := Lib.hid (fun (W : World) (h : RdE W (some ⟨g3, 0, none⟩) (es ++ [(a, cc)])) => least_calls k (by omega) (some ⟨g3, 0, none⟩) (es ++ [(a, cc)]).length c3 (es ++ [(a, cc)]) W rfl (by simp; omega) HG2' h hbd3.1 hbd3.2 m1 m2 m3)
      obtain ⟨fs, hfs⟩ : ∃ fs, fs = es ++ [(a, cc)] := ⟨_, rfl⟩
      rw [← hfs] at CN HF hbd3 ⊢
      obtain ⟨L, hL⟩ : ∃ L, L = es.length := ⟨_, rfl⟩
      rw [← hL] at CL hbd ⊢
      obtain ⟨L2, hL2⟩ : ∃ L, L = fs.length := ⟨_, rfl⟩
      rw [← hL2] at CN hbd3 ⊢
      have t1 : decide (d1 ≥ b1) = true := decide_eq_true (by omega)
      have t2 : decide (d2 ≥ b2) = true := decide_eq_true (by omega)
      have t3 : decide (d3 > b3) = true := decide_eq_true (by omega)
      clear l1 l2 l3 m1 m2 m3 ho3 hB3 hfs hL hL2 HG2' HG2 HG u1 u2 u3 v1 v2 v3 v4 v5 vp vq hk0z hk1z hk0a hk0c hk1a hk1b hk1c hk1d BR
      go_wp2_with fail
      refine (CL.out _ HE.out).mono ?_
      rintro e w4 ⟨g4, rfl, hrd4, hB4⟩
      have HF := Lib.hid (HF.out.below hB4)
      have HW := Lib.hid (HW.out.trans (hB4.mono HW.out.size))
      clear hB4
      go_wp2_with fail
      refine (CN.out _ HF.out).mono ?_
      rintro e w5 ⟨g5, rfl, hrd5, hB5⟩
      have HW := Lib.hid (HW.out.trans (hB5.mono HW.out.size))
      have hrd4 := hrd4.below hB5
      have e0 := hrd4.at2 0 (by simp)
      have e1 := hrd4.at2 1 (by simp)
      have e2 := hrd4.at2 2 (by simp)
      have j0 := hrd5.at2 0 (by simp)
      have j1 := hrd5.at2 1 (by simp)
      have j2 := hrd5.at2 2 (by simp)
      simp only [Nat.zero_add, List.getElem_cons_zero, List.getElem_cons_succ] at e0 e1 e2 j0 j1 j2
      have CV := Lib.hid (fun (W : World) => lives_calls W)
      clear hrd4 hrd5 hB5
      go_wp2_with fail
      go_region_held3 (fun w' => w'.cell? ⟨g4, 0, none⟩ = some (.int .i64 b1) ∧ w'.cell? ⟨g4, 1, none⟩ = some (.int .i64 b2) ∧ w'.cell? ⟨g4, 2, none⟩ = some (.int .i64 b3) ∧ w'.cell? ⟨g5, 0, none⟩ = some (.int .i64 d1) ∧ w'.cell? ⟨g5, 1, none⟩ = some (.int .i64 d2) ∧ w'.cell? ⟨g5, 2, none⟩ = some (.int .i64 d3) ∧ Below w5.heap.size w5 w')
        ((first | exact ⟨e0, e1, e2, j0, j1, j2, (Below.refl _ _).drew⟩ | exact keep6 e0 e1 e2 j0 j1 j2 ((Below.refl w5.heap.size w5).drew.trans (by assumption))))
        ((go_at_call 16; (with_reducible refine (CV.out _).mono ?_); rintro e w9 ⟨rfl, hB9⟩))
      clear t1 t2 t3 e0 e1 e2 j0 j1 j2
      go_wp2_with fail
      go_ret
      exact ⟨rfl, HW.out.trans (((Below.refl _ _).drew.trans hB9).mono HW.out.size)⟩
end Go.Proofs.Ytlidnhmagleehaa
