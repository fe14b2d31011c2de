/- What is proved: within, closed (contracts of functions of paint, and what they need). No condition beyond those in each statement. -/
import Derived.Test.YtplafgmceggcnaaO
namespace Go.Proofs.Ytplafgmceggcnaa
open Go.RowKit

def anyTail (f : Int → List Int → Bool) : List Int → Bool
  | [] => false
  | x :: r => f x r || anyTail f r
def withinF (kn : Int → Int → Bool) : Nat → List Int → Bool
  | 0, _ => true
  | m + 1, l => anyTail (fun x r => withinF kn m (r.filter (kn x))) l

def WithI (w : World) (r : Bool) (f : Int → List Int → Bool) (l : List Int) (nl : Nat) (v : Value) (wr : World) : Prop :=
  ∃ i : Nat, v = .int .i64 i ∧ i ≤ nl ∧ Hid (r = anyTail f (l.drop i)) ∧ Hid (Below w.heap.size w wr)
/-- The vertices so far that are kept. -/
def RestI (w : World) (l : List Int) (p : Int → Bool) (i nl : Nat) (s v : Value) (wr : World) : Prop :=
  ∃ (k : Nat) (A : Option Addr) (nn cap : Nat) (xs : List Int), s = .slice A nn cap ∧ v = .int .i64 k ∧ i ≤ k ∧ k ≤ nl ∧ Hid (xs ++ (l.drop k).filter p = (l.drop i).filter p) ∧ Hid (Ow wr w.heap.size s xs) ∧ Hid (nn = xs.length) ∧ Hid (Below w.heap.size w wr)
theorem Ow.below2 {w w' : World} {base : Nat} {v : Value} {xs : List Int} (h : Ow w base v xs) (hb : Below w.heap.size w w') : Ow w' base v xs := h.below hb
theorem Below.drewN2 {B : Nat} {w w' : World} {n : Nat} (h : Below B w w') : Below B w (w'.drewN n) := below_drewN h _
theorem Ow.len {w : World} {base : Nat} {A : Option Addr} {n c : Nat} {xs : List Int} (h : Ow w base (.slice A n c) xs) : n = xs.length := by
  rcases h.2 with ⟨e, h0⟩ | ⟨g, cap, cur, e, _⟩
  · cases e; exact h0.symm
  · cases e; rfl
theorem Rd.at2 {w : World} {b o : Nat} {xs : List Int} (h : Rd w (some ⟨b, o, none⟩) xs) (k : Nat) (hk : k < xs.length) : w.cell? ⟨b, o + k, none⟩ = some (.int .i64 xs[k]) := by
  obtain ⟨b', o', e, _, hc⟩ := h.at k hk
  cases e; exact hc

set_option maxHeartbeats 4000000 in
theorem within_calls (n : Nat) (hn : n ≤ 8) (cs : List Int) (color : Int) (m : Nat) (hm : m ≤ 10) :
    ∀ (C L : Option Addr) (nc cc nl cl : Nat) (mz : Int) (l : List Int) (w : World), mz = m → nc = cs.length → nl = l.length → nl ≤ 100 → Rd w C cs → Rd w L l → nc ≤ cc → cc ≤ 9223372036854775807 → nl ≤ cl → cl ≤ 9223372036854775807 →
      (∀ u ∈ l, 0 ≤ u ∧ u < n) → l.Pairwise (· ≠ ·) →
      Calls Try.prog 62 #[.int .i64 n, .slice C nc cc, .int .i64 color, .slice L nl cl, .int .i64 mz] w fun e w' =>
        e = .returned (.bool (withinF (knB n cs color) m l)) ∧ Below w.heap.size w w' := by
  induction m with
  | zero =>
    intro C L nc cc nl cl mz l w hmz _ _ _ _ _ _ _ _ _ _ _
    subst hmz
    go_enter Try.func62, Try.ntmps62
    go_wp2_with fail
    go_ret
    exact ⟨rfl, Below.refl _ _⟩
  | succ m ih =>
    intro C L nc cc nl cl mz l w hmz hnc hnl hnl2 hC hL h1 h2 h3 h4 hu hp
    subst hmz
    have HNC := Lib.hid hnc
    have HNL := Lib.hid hnl
    have HC := Lib.hid hC
    have HL := Lib.hid hL
    have HU := Lib.hid hu
    have HP := Lib.hid hp
    have HIH := Lib.hid (ih (by omega))
    clear hnc hnl hC hL hu hp ih
    go_enter Try.func62, Try.ntmps62
    go_wp2_with fail
    go_loopw [11] (WithI w (withinF (knB n cs color) (m + 1) l) (fun x r => withinF (knB n cs color) m (r.filter (knB n cs color x))) l nl) (fun v _ => nl - (intOf v).toNat)
    case atStart => exact ⟨0, rfl, Nat.zero_le _, rfl, Below.refl _ _⟩
    case round =>
      obtain ⟨i, rfl, hi, HG, HB⟩ := hrel
      by_cases hlt : i < nl
      · have hil : i < l.length := by have := HNL.out; omega
        obtain ⟨b0, o, rfl, hb0, hc1⟩ := HL.out.at i hil
        obtain ⟨x, hx⟩ : ∃ x, x = l[i] := ⟨_, rfl⟩
        have HX := Lib.hid hx
        have hxu := HU.out l[i] (List.getElem_mem hil)
        rw [← hx] at hc1 hxu
        clear hx
        go_wp2_with fail
        go_loopw [12, 13] (RestI w l (knB n cs color x) (i + 1) nl) (fun _ v _ => nl - (intOf v).toNat)
        case atStart => exact ⟨i + 1, _, _, _, [], rfl, by go_num, Nat.le_refl _, by omega, rfl, ow_new _ _ HB.out.size, rfl, HB.out.alloc HB.out.size _⟩
        case round =>
          obtain ⟨k, A, nn, cap, xs, rfl, rfl, hk1, hk2, HX2, HO, HNN, HB2⟩ := hrel
          by_cases hlt2 : k < nl
          · have hkl : k < l.length := by have := HNL.out; omega
            obtain ⟨b', o', e', _, hc2⟩ := HL.out.at k hkl
            cases e'
            obtain ⟨y, hy⟩ : ∃ x, x = l[k] := ⟨_, rfl⟩
            have HY := Lib.hid hy
            have hyu := HU.out l[k] (List.getElem_mem hkl)
            rw [← hy] at hc2 hyu
            clear hy
            have hne : x ≠ y := by
              rw [HX.out, HY.out]
              exact List.pairwise_iff_getElem.1 HP.out i k hil hkl (by omega)
            have d1 := (HB2.out.cell (p := ⟨b0, o + i, none⟩) hb0).trans hc1
            have d2 := (HB2.out.cell (p := ⟨b0, o + k, none⟩) hb0).trans hc2
            have b1 : (0 : Int) ≤ i ∧ (i : Int) < nl := by omega
            have b2 : (0 : Int) ≤ k ∧ (k : Int) < nl := by omega
            clear hc2
            have CK := Lib.hid (fun (W : World) (hW : Below w.heap.size w W) => known_calls n hn C nc cc cs color x y W HNC.out (HC.out.below hW) h1 h2 hxu hyu hne)
            have w1 : IntKind.i64.wrap (i : Int) = i := IntWalk.i64_in _ (by omega)
            have w2 : IntKind.i64.wrap (k : Int) = k := IntWalk.i64_in _ (by omega)
            go_wp2_with fail
            go_quiet ((go_at_call 61; exact Calls.quiet_of_same ((CK.out _ (below_drewN HB2.out _)).mono fun e w' h => ⟨h.1, h.2.symm⟩)))
            have HB3 := Lib.hid (below_drewN HB2.out nq)
            have HO3 : Hid (Ow (wr.drewN nq) w.heap.size (.slice A nn cap) xs) := Ow.below2 HO.out (Below.drewN2 (Below.refl _ _))
            have d3 := (HB3.out.cell (p := ⟨b0, o + k, none⟩) hb0).trans ((HL.out.at2 k hkl).trans (by rw [← HY.out]))
            obtain ⟨W, hW⟩ : ∃ W, W = wr.drewN nq := ⟨_, rfl⟩
            rw [← hW] at HB3 HO3 d3 ⊢
            clear hW HB2 HO d1 d2 CK w1
            have hxl : xs.length ≤ 100 := by
              have e1 := congrArg List.length HX2.out
              have e2 := List.length_filter_le (knB n cs color x) (l.drop (i + 1))
              rw [List.length_append] at e1
              rw [List.length_drop] at e2
              have := HNL.out; omega
            cases hk : knB n cs color x y
            · have HK := Lib.hid hk
              clear hk
              go_wp2_with fail
              go_roundw
              case rel => exact ⟨k + 1, A, nn, cap, xs, rfl, by go_num, by omega, by omega, by
                have := HX2.out
                rw [List.drop_eq_getElem_cons hkl, ← HY.out, List.filter_cons_of_neg (by rw [HK.out]; decide)] at this; exact this, HO3.out, HNN.out, HB3.out⟩
              case measure => simp [intOf]; omega
            · have HK := Lib.hid hk
              clear hk
              obtain ⟨A', n', c', w', hrun, ho, hb⟩ := ow_push y HO3.out HB3.out.size (by omega)
              have HRUN := Lib.hid hrun
              have HO4 := Lib.hid ho
              have HB4 := Lib.hid (HB3.out.trans hb)
              clear hrun ho hb
              go_wp2_with (at_builtin; refine wpList_app rfl (.tmp 43) (.tmp 48) 22 22 rfl rfl _ _ rfl rfl HRUN.out ?_)
              go_simp
              go_roundw
              case rel => exact ⟨k + 1, some A', n', c', xs ++ [y], rfl, by go_num, by omega, by omega, by
                have := HX2.out
                rw [List.drop_eq_getElem_cons hkl, ← HY.out, List.filter_cons_of_pos (by rw [HK.out])] at this
                show _ = _
                rw [List.append_assoc]; exact this, HO4.out, HO4.out.len, HB4.out⟩
              case measure => simp [intOf]; omega
          · have HX3 : Hid (xs = (l.drop (i + 1)).filter (knB n cs color x)) := by
              have := HX2.out
              rw [show k = l.length by have := HNL.out; omega, List.drop_length, List.filter_nil, List.append_nil] at this; exact this
            have hxl : nn ≤ 100 := by
              have e1 := congrArg List.length HX3.out
              have e2 := List.length_filter_le (knB n cs color x) (l.drop (i + 1))
              rw [List.length_drop] at e2
              have := HNL.out; have := HNN.out; omega
            obtain ⟨A', c', e', g1, g2, _, g3⟩ := HO.out.sl
            have hcc : cap = c' ∧ A = A' := by simp at e'; exact ⟨e'.2.2, e'.1⟩
            obtain ⟨rfl, rfl⟩ := hcc
            have HREST := Lib.hid (HIH.out C A nc cc nn cap _ xs wr rfl HNC.out HNN.out hxl (HC.out.below HB2.out) g3 h1 h2 (by have := HNN.out; omega) g2 (fun u hu => HU.out u (List.mem_of_mem_drop (List.mem_filter.1 (by rw [HX3.out] at hu; exact hu)).1)) (by
              rw [HX3.out]; exact (HP.out.sublist (List.drop_sublist _ _)).filter _))
            clear e' g1 g2 g3 hc1
            have w1 : IntKind.i64.wrap (((m + 1 : Nat) : Int) - 1) = m := by rw [IntWalk.i64_in _ (by omega)]; omega
            go_wp2_with fail
            refine HREST.out.mono ?_
            rintro e w3 ⟨rfl, hB3⟩
            have HB3 := Lib.hid (HB2.out.trans (hB3.mono HB2.out.size))
            clear hB3
            have HG2 : Hid (withinF (knB n cs color) (m + 1) l = (withinF (knB n cs color) m xs || anyTail (fun x r => withinF (knB n cs color) m (r.filter (knB n cs color x))) (l.drop (i + 1)))) := by
              have := HG.out
              rw [List.drop_eq_getElem_cons hil, ← HX.out] at this
              rw [show _ = _ from this, HX3.out]; rfl
            cases hj : withinF (knB n cs color) m xs
            · have HJ := Lib.hid hj
              clear hj
              go_wp2_with fail
              go_simp
              go_roundw
              case rel => exact ⟨i + 1, by go_num, by omega, by show _ = _; rw [HG2.out, HJ.out, Bool.false_or], HB3.out⟩
              case measure => simp [intOf]; omega
            · have HJ := Lib.hid hj
              clear hj
              go_wp2_with fail
              go_ret
              exact ⟨ret_bool (by rw [HG2.out, HJ.out]; rfl), HB3.out⟩
      · have HR : Hid (withinF (knB n cs color) (m + 1) l = false) := by
          have := HG.out
          rw [show i = l.length by have := HNL.out; omega, List.drop_length] at this; exact this
        go_wp2_with fail
        go_ret
        exact ⟨ret_bool HR.out.symm, HB.out⟩

def endStep (n : Int) (e : Int × Int) : Int × Int := if e.2 + 1 == n then (e.1 + 1, e.1 + 2) else (e.1, e.2 + 1)
def endAt (n : Nat) : Nat → Int × Int
  | 0 => (0, 1)
  | i + 1 => endStep n (endAt n i)
theorem endAt_of : ∀ n, n ≤ 8 → ∀ j, j < (endsOf n).length → endAt n j = ((((endsOf n).getD j (0, 0)).1 : Int), (((endsOf n).getD j (0, 0)).2 : Int)) := by decide +kernel
theorem endAt_ne : ∀ n, n ≤ 8 → ∀ j, j < (endsOf n).length → (endAt n j).1 < (endAt n j).2 ∧ 0 ≤ (endAt n j).1 ∧ (endAt n j).2 < n := by decide +kernel
theorem endAt_small : ∀ n, n ≤ 8 → ∀ j, j ≤ 28 → 0 ≤ (endAt n j).1 ∧ (endAt n j).1 ≤ 100 ∧ 0 ≤ (endAt n j).2 ∧ (endAt n j).2 ≤ 100 := by decide +kernel
def commonB (n : Nat) (cs : List Int) (color a c v : Int) : Bool := v != a && v != c && knB n cs color v a && knB n cs color v c
def ints (n : Nat) : List Int := (List.range n).map fun v : Nat => (v : Int)
theorem ints_succ (n : Nat) : ints (n + 1) = ints n ++ [(n : Int)] := by simp [ints, List.range_succ]
theorem ints_len (n : Nat) : (ints n).length = n := by simp [ints]
def closedF (n : Nat) (k l : Int) (cs : List Int) : Bool :=
  withinF (knB n cs (cs.getD (cs.length - 1) 0)) (sizeOfColor k l (cs.getD (cs.length - 1) 0) - 2).toNat ((ints n).filter (commonB n cs (cs.getD (cs.length - 1) 0) (endAt n (cs.length - 1)).1 (endAt n (cs.length - 1)).2))

def EndAtI (n t : Nat) (a b v : Value) : Prop := ∃ i : Nat, a = .int .i64 (endAt n i).1 ∧ b = .int .i64 (endAt n i).2 ∧ v = .int .i64 ((i : Int) + 1) ∧ i ≤ t
/-- The vertices so far that are joined to both ends. -/
def CommonI (w : World) (n : Nat) (p : Int → Bool) (s v : Value) (wr : World) : Prop :=
  ∃ (k : Nat) (A : Option Addr) (nn cap : Nat) (xs : List Int), s = .slice A nn cap ∧ v = .int .i64 k ∧ k ≤ n ∧ Hid (xs = (ints k).filter p) ∧ Hid (Ow wr w.heap.size s xs) ∧ Hid (nn = xs.length) ∧ Hid (Below w.heap.size w wr)

set_option maxHeartbeats 4000000 in
theorem closed_calls (n : Nat) (hn : n ≤ 8) (C : Option Addr) (nc cc : Nat) (cs : List Int) (k l : Int) (w : World) (hk : 2 ≤ k ∧ k ≤ 4) (hl : 2 ≤ l ∧ l ≤ 4) (hnc : nc = cs.length) (hpos : 1 ≤ nc) (hle : nc ≤ npairs n) (hC : Rd w C cs) (h1 : nc ≤ cc) (h2 : cc ≤ 9223372036854775807) :
    Calls Try.prog 44 #[.int .i64 n, .slice C nc cc, .int .i64 k, .int .i64 l] w fun e w' => e = .returned (.bool (closedF n k l cs)) ∧ Below w.heap.size w w' := by
  have HNC := Lib.hid hnc
  have HC := Lib.hid hC
  have hnp := npairs_le n hn
  have hen := endsOf_len n hn
  obtain ⟨t, ht⟩ : ∃ t, nc = t + 1 := ⟨nc - 1, by omega⟩
  subst ht
  have htl : t < cs.length := by omega
  obtain ⟨bc, oc, rfl, hbc, hcc⟩ := hC.at t htl
  obtain ⟨color, hcol⟩ : ∃ q, q = cs[t] := ⟨_, rfl⟩
  rw [← hcol] at hcc
  obtain ⟨ea, hea⟩ : ∃ q, q = (endAt n t).1 := ⟨_, rfl⟩
  obtain ⟨eb, heb⟩ : ∃ q, q = (endAt n t).2 := ⟨_, rfl⟩
  have hne := endAt_ne n hn t (by omega)
  rw [← hea, ← heb] at hne
  have HR : Hid (closedF n k l cs = withinF (knB n cs color) (sizeOfColor k l color - 2).toNat ((ints n).filter (commonB n cs color ea eb))) := by
    show _ = _
    unfold closedF
    rw [show cs.length - 1 = t by omega, show cs.getD t 0 = color by rw [hcol]; exact getD_lt _ () htl, hea, heb]
  have HEA := Lib.hid hea
  have HEB := Lib.hid heb
  clear hnc hC hen hcol hea heb
  go_enter Try.func44, Try.ntmps44
  go_wp2_with fail
  go_loop [9, 10, 11] (EndAtI n t) (fun _ _ v => t + 1 - (intOf v).toNat)
  case atStart => exact ⟨0, rfl, rfl, rfl, Nat.zero_le _⟩
  case round =>
    obtain ⟨i, rfl, rfl, rfl, hi⟩ := hrel
    have hsm := endAt_small n hn i (by omega)
    have hsm2 := endAt_small n hn (i + 1)
    obtain ⟨p, hp⟩ : ∃ q, q = (endAt n i).1 := ⟨_, rfl⟩
    obtain ⟨q, hq⟩ : ∃ q, q = (endAt n i).2 := ⟨_, rfl⟩
    have hs : endAt n (i + 1) = endStep n (p, q) := by rw [hp, hq]; rfl
    rw [← hp, ← hq] at hsm ⊢
    have HP := Lib.hid hp
    have HQ := Lib.hid hq
    have HS := Lib.hid hs
    clear hp hq hs hsm2
    by_cases hlt : i < t
    · cases hq : (q + 1 == (n : Int))
      · have HE : Hid (endAt n (i + 1) = (p, q + 1)) := by show _ = _; rw [HS.out]; unfold endStep; rw [hq]; rfl
        go_wp2_with fail
        go_simp
        go_round
        case rel => exact ⟨i + 1, by rw [HE.out], by rw [HE.out], by go_num, by omega⟩
        case measure => simp [intOf]; omega
      · have HE : Hid (endAt n (i + 1) = (p + 1, p + 2)) := by show _ = _; rw [HS.out]; unfold endStep; rw [hq]; rfl
        go_wp2_with fail
        go_simp
        go_round
        case rel => exact ⟨i + 1, by rw [HE.out], by rw [HE.out]; go_num, by go_num, by omega⟩
        case measure => simp [intOf]; omega
    · have hit : i = t := by omega
      have hpa : p = ea := by rw [HP.out, HEA.out, hit]
      have hqb : q = eb := by rw [HQ.out, HEB.out, hit]
      clear hit
      subst hpa hqb
      clear HP HQ HS hpos
      obtain ⟨hne1, hne2, hne3⟩ := hne
      have hsz : ∃ m : Nat, (if color == 1 then l else k) - 2 = m ∧ m ≤ 2 := by
        split
        · exact ⟨(l - 2).toNat, by omega, by omega⟩
        · exact ⟨(k - 2).toNat, by omega, by omega⟩
      obtain ⟨m, hm1, hm2⟩ := hsz
      have HM : Hid ((sizeOfColor k l color - 2).toNat = m) := by show _ = _; unfold sizeOfColor; rw [hm1]; rfl
      cases hc1 : (color == 1)
      · skip
        rw [hc1] at hm1
        simp only [if_false, Bool.false_eq_true] at hm1
        have HM1 := Lib.hid hm1
        clear hm1
        go_wp2_with fail
        clear hc1
        go_loopw [14, 15] (CommonI w n (commonB n cs color p q)) (fun _ v _ => n - (intOf v).toNat)
        case atStart => exact ⟨0, _, _, _, [], rfl, rfl, Nat.zero_le _, rfl, ow_new _ _ (Nat.le_refl _), rfl, (Below.refl _ _).alloc (Nat.le_refl _) _⟩
        case round =>
          obtain ⟨v, A, nn, cap, xs, rfl, rfl, hv, HX2, HO, HNN, HB2⟩ := hrel
          by_cases hlt2 : v < n
          · have hxl : xs.length ≤ 100 := by
              have e1 := congrArg List.length HX2.out
              have e2 := List.length_filter_le (commonB n cs color p q) (ints v)
              rw [ints_len] at e2
              omega
            have CK1 := Lib.hid (fun (hx : (v : Int) ≠ p) => known_calls n hn (some ⟨bc, oc, none⟩) (t + 1) cc cs color v p wr HNC.out (HC.out.below HB2.out) h1 h2 (by omega) (by omega) hx)
            have CK2 := Lib.hid (fun (hx : (v : Int) ≠ q) => known_calls n hn (some ⟨bc, oc, none⟩) (t + 1) cc cs color v q wr HNC.out (HC.out.below HB2.out) h1 h2 (by omega) (by omega) hx)
            cases t1 : ((v : Int) != p)
            · have HK : Hid (commonB n cs color p q v = false) := by show _ = _; unfold commonB; rw [t1]; rfl
              go_wp2_with fail
              go_simp
              go_roundw
              case rel => exact ⟨v + 1, A, nn, cap, xs, rfl, by go_num, by omega, by show _ = _; rw [ints_succ, List.filter_append, ← HX2.out, List.filter_cons_of_neg (by rw [HK.out]; decide)]; simp, HO.out, HNN.out, HB2.out⟩
              case measure => simp [intOf]; omega
            · have ne1 : (v : Int) ≠ p := by simpa using t1
              cases t2 : ((v : Int) != q)
              · have HK : Hid (commonB n cs color p q v = false) := by show _ = _; unfold commonB; rw [t1, t2]; rfl
                go_wp2_with fail
                go_simp
                go_roundw
                case rel => exact ⟨v + 1, A, nn, cap, xs, rfl, by go_num, by omega, by show _ = _; rw [ints_succ, List.filter_append, ← HX2.out, List.filter_cons_of_neg (by rw [HK.out]; decide)]; simp, HO.out, HNN.out, HB2.out⟩
                case measure => simp [intOf]; omega
              · have ne2 : (v : Int) ≠ q := by simpa using t2
                cases t3 : knB n cs color v p
                · have HK : Hid (commonB n cs color p q v = false) := by show _ = _; unfold commonB; rw [t1, t2, t3]; rfl
                  have HT3 := Lib.hid t3
                  clear t3
                  go_wp2_with fail
                  refine (CK1.out ne1).mono ?_
                  rintro e w1 ⟨rfl, rfl⟩
                  rw [HT3.out]
                  go_wp2_with fail
                  go_simp
                  go_roundw
                  case rel => exact ⟨v + 1, A, nn, cap, xs, rfl, by go_num, by omega, by show _ = _; rw [ints_succ, List.filter_append, ← HX2.out, List.filter_cons_of_neg (by rw [HK.out]; decide)]; simp, HO.out, HNN.out, HB2.out⟩
                  case measure => simp [intOf]; omega
                · have HT3 := Lib.hid t3
                  cases t4 : knB n cs color v q
                  · have HK : Hid (commonB n cs color p q v = false) := by show _ = _; unfold commonB; rw [t1, t2, t3, t4]; rfl
                    have HT4 := Lib.hid t4
                    clear t3 t4
                    go_wp2_with fail
                    refine (CK1.out ne1).mono ?_
                    rintro e w1 ⟨rfl, rfl⟩
                    rw [HT3.out]
                    go_wp2_with fail
                    refine (CK2.out ne2).mono ?_
                    rintro e w1 ⟨rfl, rfl⟩
                    rw [HT4.out]
                    go_wp2_with fail
                    go_simp
                    go_roundw
                    case rel => exact ⟨v + 1, A, nn, cap, xs, rfl, by go_num, by omega, by show _ = _; rw [ints_succ, List.filter_append, ← HX2.out, List.filter_cons_of_neg (by rw [HK.out]; decide)]; simp, HO.out, HNN.out, HB2.out⟩
                    case measure => simp [intOf]; omega
                  · have HK : Hid (commonB n cs color p q v = true) := by show _ = _; unfold commonB; rw [t1, t2, t3, t4]; rfl
                    have HT4 := Lib.hid t4
                    clear t3 t4
                    obtain ⟨A', n', c', w', hrun, ho, hb⟩ := ow_push (v : Int) HO.out HB2.out.size (by omega)
                    have HRUN := Lib.hid hrun
                    have HO4 := Lib.hid ho
                    have HB4 := Lib.hid (HB2.out.trans hb)
                    clear hrun ho hb
                    go_wp2_with fail
                    refine (CK1.out ne1).mono ?_
                    rintro e w1 ⟨rfl, rfl⟩
                    rw [HT3.out]
                    go_wp2_with fail
                    refine (CK2.out ne2).mono ?_
                    rintro e w1 ⟨rfl, rfl⟩
                    rw [HT4.out]
                    go_wp2_with (at_builtin; refine wpList_app rfl (.tmp 71) (.tmp 73) 22 22 rfl rfl _ _ rfl rfl HRUN.out ?_)
                    go_simp
                    go_roundw
                    case rel => exact ⟨v + 1, some A', n', c', xs ++ [(v : Int)], rfl, by go_num, by omega, by show _ = _; rw [ints_succ, List.filter_append, ← HX2.out, List.filter_cons_of_pos (by rw [HK.out])]; simp, HO4.out, HO4.out.len, HB4.out⟩
                    case measure => simp [intOf]; omega
          · have HX3 : Hid (xs = (ints n).filter (commonB n cs color p q)) := by
              have := HX2.out
              rwa [show v = n by omega] at this
            have hxl : nn ≤ 100 := by
              have e1 := congrArg List.length HX3.out
              have e2 := List.length_filter_le (commonB n cs color p q) (ints n)
              rw [ints_len] at e2
              have := HNN.out; omega
            obtain ⟨A', c', e', g1, g2, _, g3⟩ := HO.out.sl
            have hcc2 : cap = c' ∧ A = A' := by simp at e'; exact ⟨e'.2.2, e'.1⟩
            obtain ⟨rfl, rfl⟩ := hcc2
            have CW := Lib.hid (within_calls n hn cs color m (by omega) (some ⟨bc, oc, none⟩) A (t + 1) cc nn cap _ xs wr rfl HNC.out HNN.out hxl (HC.out.below HB2.out) g3 h1 h2 (by have := HNN.out; omega) g2 (fun u hu => by
                rw [HX3.out] at hu
                have := (List.mem_filter.1 hu).1
                simp [ints] at this
                obtain ⟨a, ha, rfl⟩ := this
                omega) (by
              rw [HX3.out]
              refine List.Pairwise.filter _ ?_
              unfold ints
              rw [List.pairwise_map]
              exact List.nodup_range.imp (fun h e => h (by omega))))
            clear e' g1 g2 g3
            have w1 : IntKind.i64.wrap (k - 2) = m := by rw [IntWalk.i64_in _ (by omega)]; exact HM1.out
            go_wp2_with fail
            refine CW.out.mono ?_
            rintro e w3 ⟨rfl, hB3⟩
            have HB3 := Lib.hid (HB2.out.trans (hB3.mono HB2.out.size))
            clear hB3 w1
            go_wp2_with fail
            go_ret
            exact ⟨ret_bool (by rw [HR.out, HM.out, HX3.out]), HB3.out⟩
      · skip
        rw [hc1] at hm1
        simp only [if_true] at hm1
        have HM1 := Lib.hid hm1
        clear hm1
        go_wp2_with fail
        clear hc1
        go_loopw [14, 15] (CommonI w n (commonB n cs color p q)) (fun _ v _ => n - (intOf v).toNat)
        case atStart => exact ⟨0, _, _, _, [], rfl, rfl, Nat.zero_le _, rfl, ow_new _ _ (Nat.le_refl _), rfl, (Below.refl _ _).alloc (Nat.le_refl _) _⟩
        case round =>
          obtain ⟨v, A, nn, cap, xs, rfl, rfl, hv, HX2, HO, HNN, HB2⟩ := hrel
          by_cases hlt2 : v < n
          · have hxl : xs.length ≤ 100 := by
              have e1 := congrArg List.length HX2.out
              have e2 := List.length_filter_le (commonB n cs color p q) (ints v)
              rw [ints_len] at e2
              omega
            have CK1 := Lib.hid (fun (hx : (v : Int) ≠ p) => known_calls n hn (some ⟨bc, oc, none⟩) (t + 1) cc cs color v p wr HNC.out (HC.out.below HB2.out) h1 h2 (by omega) (by omega) hx)
            have CK2 := Lib.hid (fun (hx : (v : Int) ≠ q) => known_calls n hn (some ⟨bc, oc, none⟩) (t + 1) cc cs color v q wr HNC.out (HC.out.below HB2.out) h1 h2 (by omega) (by omega) hx)
            cases t1 : ((v : Int) != p)
            · have HK : Hid (commonB n cs color p q v = false) := by show _ = _; unfold commonB; rw [t1]; rfl
              go_wp2_with fail
              go_simp
              go_roundw
              case rel => exact ⟨v + 1, A, nn, cap, xs, rfl, by go_num, by omega, by show _ = _; rw [ints_succ, List.filter_append, ← HX2.out, List.filter_cons_of_neg (by rw [HK.out]; decide)]; simp, HO.out, HNN.out, HB2.out⟩
              case measure => simp [intOf]; omega
            · have ne1 : (v : Int) ≠ p := by simpa using t1
              cases t2 : ((v : Int) != q)
              · have HK : Hid (commonB n cs color p q v = false) := by show _ = _; unfold commonB; rw [t1, t2]; rfl
                go_wp2_with fail
                go_simp
                go_roundw
                case rel => exact ⟨v + 1, A, nn, cap, xs, rfl, by go_num, by omega, by show _ = _; rw [ints_succ, List.filter_append, ← HX2.out, List.filter_cons_of_neg (by rw [HK.out]; decide)]; simp, HO.out, HNN.out, HB2.out⟩
                case measure => simp [intOf]; omega
              · have ne2 : (v : Int) ≠ q := by simpa using t2
                cases t3 : knB n cs color v p
                · have HK : Hid (commonB n cs color p q v = false) := by show _ = _; unfold commonB; rw [t1, t2, t3]; rfl
                  have HT3 := Lib.hid t3
                  clear t3
                  go_wp2_with fail
                  refine (CK1.out ne1).mono ?_
                  rintro e w1 ⟨rfl, rfl⟩
                  rw [HT3.out]
                  go_wp2_with fail
                  go_simp
                  go_roundw
                  case rel => exact ⟨v + 1, A, nn, cap, xs, rfl, by go_num, by omega, by show _ = _; rw [ints_succ, List.filter_append, ← HX2.out, List.filter_cons_of_neg (by rw [HK.out]; decide)]; simp, HO.out, HNN.out, HB2.out⟩
                  case measure => simp [intOf]; omega
                · have HT3 := Lib.hid t3
                  cases t4 : knB n cs color v q
                  · have HK : Hid (commonB n cs color p q v = false) := by show _ = _; unfold commonB; rw [t1, t2, t3, t4]; rfl
                    have HT4 := Lib.hid t4
                    clear t3 t4
                    go_wp2_with fail
                    refine (CK1.out ne1).mono ?_
                    rintro e w1 ⟨rfl, rfl⟩
                    rw [HT3.out]
                    go_wp2_with fail
                    refine (CK2.out ne2).mono ?_
                    rintro e w1 ⟨rfl, rfl⟩
                    rw [HT4.out]
                    go_wp2_with fail
                    go_simp
                    go_roundw
                    case rel => exact ⟨v + 1, A, nn, cap, xs, rfl, by go_num, by omega, by show _ = _; rw [ints_succ, List.filter_append, ← HX2.out, List.filter_cons_of_neg (by rw [HK.out]; decide)]; simp, HO.out, HNN.out, HB2.out⟩
                    case measure => simp [intOf]; omega
                  · have HK : Hid (commonB n cs color p q v = true) := by show _ = _; unfold commonB; rw [t1, t2, t3, t4]; rfl
                    have HT4 := Lib.hid t4
                    clear t3 t4
                    obtain ⟨A', n', c', w', hrun, ho, hb⟩ := ow_push (v : Int) HO.out HB2.out.size (by omega)
                    have HRUN := Lib.hid hrun
                    have HO4 := Lib.hid ho
                    have HB4 := Lib.hid (HB2.out.trans hb)
                    clear hrun ho hb
                    go_wp2_with fail
                    refine (CK1.out ne1).mono ?_
                    rintro e w1 ⟨rfl, rfl⟩
                    rw [HT3.out]
                    go_wp2_with fail
                    refine (CK2.out ne2).mono ?_
                    rintro e w1 ⟨rfl, rfl⟩
                    rw [HT4.out]
                    go_wp2_with (at_builtin; refine wpList_app rfl (.tmp 71) (.tmp 73) 22 22 rfl rfl _ _ rfl rfl HRUN.out ?_)
                    go_simp
                    go_roundw
                    case rel => exact ⟨v + 1, some A', n', c', xs ++ [(v : Int)], rfl, by go_num, by omega, by show _ = _; rw [ints_succ, List.filter_append, ← HX2.out, List.filter_cons_of_pos (by rw [HK.out])]; simp, HO4.out, HO4.out.len, HB4.out⟩
                    case measure => simp [intOf]; omega
          · have HX3 : Hid (xs = (ints n).filter (commonB n cs color p q)) := by
              have := HX2.out
              rwa [show v = n by omega] at this
            have hxl : nn ≤ 100 := by
              have e1 := congrArg List.length HX3.out
              have e2 := List.length_filter_le (commonB n cs color p q) (ints n)
              rw [ints_len] at e2
              have := HNN.out; omega
            obtain ⟨A', c', e', g1, g2, _, g3⟩ := HO.out.sl
            have hcc2 : cap = c' ∧ A = A' := by simp at e'; exact ⟨e'.2.2, e'.1⟩
            obtain ⟨rfl, rfl⟩ := hcc2
            have CW := Lib.hid (within_calls n hn cs color m (by omega) (some ⟨bc, oc, none⟩) A (t + 1) cc nn cap _ xs wr rfl HNC.out HNN.out hxl (HC.out.below HB2.out) g3 h1 h2 (by have := HNN.out; omega) g2 (fun u hu => by
                rw [HX3.out] at hu
                have := (List.mem_filter.1 hu).1
                simp [ints] at this
                obtain ⟨a, ha, rfl⟩ := this
                omega) (by
              rw [HX3.out]
              refine List.Pairwise.filter _ ?_
              unfold ints
              rw [List.pairwise_map]
              exact List.nodup_range.imp (fun h e => h (by omega))))
            clear e' g1 g2 g3
            have w1 : IntKind.i64.wrap (l - 2) = m := by rw [IntWalk.i64_in _ (by omega)]; exact HM1.out
            go_wp2_with fail
            refine CW.out.mono ?_
            rintro e w3 ⟨rfl, hB3⟩
            have HB3 := Lib.hid (HB2.out.trans (hB3.mono HB2.out.size))
            clear hB3 w1
            go_wp2_with fail
            go_ret
            exact ⟨ret_bool (by rw [HR.out, HM.out, HX3.out]), HB3.out⟩
end Go.Proofs.Ytplafgmceggcnaa
