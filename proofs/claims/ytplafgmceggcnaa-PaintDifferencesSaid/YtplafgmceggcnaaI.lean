/- What is proved: Index, Contains, joined (contracts of functions of paint, and what they need). No condition beyond those in each statement. -/
import Derived.Test.YtplafgmceggcnaaF
namespace Go.Proofs.Ytplafgmceggcnaa
open Go.RowKit

set_option maxHeartbeats 400000 in
theorem index_calls (A : Option Addr) (n c : Nat) (xs : List Int) (v : Int) (w : World) (hn : n = xs.length) (hx : Rd w A xs) (hl : n ≤ c) (_hc : c ≤ 9223372036854775807) :
    Calls Try.prog 66 #[.slice A n c, .int .i64 v] w fun e w' =>
      ∃ i : Int, e = .returned (.int .i64 i) ∧ decide (i ≥ 0) = (xs.any fun u => v == u) ∧ w = w' := by
  have HX := Lib.hid hx
  have HN := Lib.hid hn
  clear hx hn
  go_enter Try.func66, Try.ntmps66
  go_wp2
  go_loop [8] (fun q => ∃ k : Nat, q = .int .i64 k ∧ k ≤ n ∧ Hid (((xs.take k).any fun u => v == u) = false)) (fun q => n - (intOf q).toNat)
  case atStart => exact ⟨0, rfl, Nat.zero_le _, (by simp : ((xs.take 0).any fun u => v == u) = false)⟩
  case round =>
    obtain ⟨k, rfl, hk, HA⟩ := hrel
    by_cases hlt : k < n
    · have hkl : k < xs.length := by have := HN.out; omega
      obtain ⟨b, o, rfl, hb, hcell⟩ := HX.out.at k hkl
      cases hpk : (v == xs[k]'hkl)
      · have HQ : Hid ((v == xs[k]'hkl) = false) := hpk
        go_wp2_with fail
        go_round
        case rel => exact ⟨k + 1, by go_num, by omega, any_take_succ hkl HA.out HQ.out⟩
        case measure => simp [intOf]; omega
      · have HQ : Hid ((v == xs[k]'hkl) = true) := hpk
        go_wp2_with fail
        go_ret
        exact ⟨k, rfl, by rw [any_at (p := fun u => v == u) hkl HQ.out]; simp, rfl⟩
    · have hk' : k = xs.length := by have := HN.out; omega
      have HA2 : Hid ((xs.any fun u => v == u) = false) := by have := HA.out; rwa [hk', List.take_length] at this
      clear hk'
      go_wp2_with fail
      go_ret
      exact ⟨-1, rfl, by rw [HA2.out]; simp, rfl⟩

set_option maxHeartbeats 400000 in
theorem contains_calls (A : Option Addr) (n c : Nat) (xs : List Int) (v : Int) (w : World) (hn : n = xs.length) (hx : Rd w A xs) (hl : n ≤ c) (hc : c ≤ 9223372036854775807) :
    Calls Try.prog 59 #[.slice A n c, .int .i64 v] w fun e w' => e = .returned (.bool (xs.any fun u => v == u)) ∧ w = w' := by
  have HC := Lib.hid (index_calls A n c xs v w hn hx hl hc)
  clear hn hx
  go_enter Try.func59, Try.ntmps59
  go_wp2_with fail
  refine HC.out.mono ?_
  rintro e w1 ⟨i, rfl, hi, rfl⟩
  go_wp2_with fail
  go_ret
  exact ⟨ret_bool rfl, rfl⟩

/-- append as a step of a region of open order. -/
theorem step_appg {ops : Array Oper} {o : Oper} {a : Act} {w : World} {K : Act → World → Prop} {Q : Exit → Act → World → Prop} {E : Prop}
    (hw : Region.wanted o (yielded ops a.tmps) = true) (s x : Operand) (hop : o.op = Op.call { callee := Callee.builtin Builtin.append, args := #[s, x], argTypes := #[22, 22] }) (hty : o.type = 22)
    (A : Option Addr) (n : Nat) (xs : List Int) (hs : a.eval s = .slice A n n) (hn : n = xs.length) (hA : Rd w A xs) (hnone : A = none → xs = [])
    (B : Option Addr) (m cy : Nat) (ys : List Int) (hx : a.eval x = .slice B m cy) (hm : m = ys.length) (hB : Rd w B ys) (hne : ys ≠ []) (hb : xs.length + ys.length ≤ 1000000)
    (hK : ∀ g nn cap w', nn = xs.length + ys.length → cap ≤ 9223372036854775807 → nn ≤ cap → Rd w' (some ⟨g, 0, none⟩) (xs ++ ys) → Below w.heap.size w w' → K (a.put o.dst (.slice (some ⟨g, 0, none⟩) nn cap)) w') :
    if Region.wanted o (yielded ops a.tmps) = true then Oper.wp Try.prog o a w K Q else E := by
  subst hn hm
  rw [if_pos hw]
  obtain ⟨v', w', hrun, hown, hbel⟩ := app_run w A xs ys hA hnone B cy hB hne hb
  obtain ⟨A', c', rfl, h1, h2, h3, h4⟩ := hown.sl
  obtain ⟨g, oo, rfl, hg2, hc2⟩ := h4 (by simp [hne])
  have hoo : oo = 0 := by
    rcases hown.2 with ⟨e, _⟩ | ⟨g', cap, cur, e, _⟩
    · cases e
    · cases e; rfl
  subst hoo
  unfold Oper.wp
  rw [List.length_append] at hrun h1
  simp [execOp, hop, hty, resolve, invoke, builtin, hs, hx, hrun, Result.andThen]
  exact hK g _ c' w' rfl h2 h1 h4 hbel
theorem keep2 {W1 w' : World} {p1 p2 : Addr} {v1 v2 : Value} (d1 : W1.cell? p1 = some v1) (d2 : W1.cell? p2 = some v2) (hb : Below W1.heap.size W1 w') :
    w'.cell? p1 = some v1 ∧ w'.cell? p2 = some v2 ∧ Below W1.heap.size W1 w' :=
  ⟨(hb.cell (World.block_lt_of_cell? _ _ d1)).trans d1, (hb.cell (World.block_lt_of_cell? _ _ d2)).trans d2, hb⟩

def anyFrom (g : Nat → Bool) : Nat → Nat → Bool
  | 0, _ => false
  | m + 1, v => g v || anyFrom g m (v + 1)
def atZ (n u v : Int) : Int := placeZ n (min u v) (max u v)
def fitB (n : Nat) (cs : List Int) (color : Int) (cl : List Int) (v : Nat) : Bool :=
  !(cl.any fun u => (v : Int) == u) && cl.all fun u => decide (atZ n u v < cs.length) && cs.getD (atZ n u v).toNat 0 == color
def joinedF (n : Nat) (fit : List Int → Nat → Bool) : Nat → List Int → Nat → Bool
  | 0, _, _ => true
  | m + 1, cl, fr => anyFrom (fun v => fit cl v && joinedF n fit m (cl ++ [(v : Int)]) (v + 1)) (n - fr) fr

theorem all_take_succ {p : Int → Bool} {xs : List Int} {k : Nat} (hk : k < xs.length) : (xs.take (k + 1)).all p = ((xs.take k).all p && p xs[k]) := by
  rw [List.take_succ_eq_append_getElem hk, List.all_append]; simp

theorem place_at (n y x p q : Int) (w : World) (hp : p = min y x) (hq : q = max y x) (h1 : 0 ≤ min y x) (h3 : max y x < n) (h4 : n ≤ 100) :
    Calls Try.prog 55 #[.int .i64 n, .int .i64 p, .int .i64 q] w fun e w' => e = .returned (.int .i64 (atZ n y x)) ∧ w = w' := by
  subst hp hq
  exact place_calls n (min y x) (max y x) w h1 (by omega) h3 h4
theorem atZ_nonneg {n y x : Int} (h : y ≠ x) (h1 : 0 ≤ min y x) (h2 : max y x < n) : 0 ≤ atZ n y x := by
  unfold atZ placeZ
  have : 0 ≤ min y x * (2 * n - min y x - 1) := Int.mul_nonneg h1 (by omega)
  omega

set_option maxHeartbeats 2000000 in
theorem joined_calls (n : Nat) (hn : n ≤ 8) (cs : List Int) (color : Int) (bn bj : Nat) (m : Nat) :
    ∀ (C L : Option Addr) (nc cc nl cl fr : Nat) (mz frz : Int) (l : List Int) (w : World), mz = m → frz = fr → nc = cs.length → nl = l.length → nl ≤ 100 - m → m ≤ 50 → fr ≤ n → Rd w C cs → Rd w L l → nc ≤ cc → cc ≤ 9223372036854775807 → nl ≤ cl → cl ≤ 9223372036854775807 → (L = none → l = []) →
      (∀ u ∈ l, 0 ≤ u ∧ u < n) →
      w.cell? ⟨bn, 0, none⟩ = some (.int .i64 n) → w.cell? ⟨bj, 0, none⟩ = some (.func (.func 58) #[] #[.pointer (some ⟨bn, 0, none⟩), .pointer (some ⟨bj, 0, none⟩)]) →
      Calls Try.prog 58 #[.slice C nc cc, .slice L nl cl, .int .i64 color, .int .i64 mz, .int .i64 frz, .pointer (some ⟨bn, 0, none⟩), .pointer (some ⟨bj, 0, none⟩)] w fun e w' =>
        e = .returned (.bool (joinedF n (fitB n cs color) m l fr)) ∧ Below w.heap.size w w' := by
  induction m with
  | zero =>
    intro C L nc cc nl cl fr mz frz l w hmz hfrz _ _ _ _ _ _ _ _ _ _ _ _ _ _ _
    subst hmz hfrz
    go_enter Try.func58, Try.ntmps58
    go_wp2_with fail
    go_ret
    exact ⟨rfl, Below.refl _ _⟩
  | succ m ih =>
    intro C L nc cc nl cl fr mz frz l w hmz hfrz hnc hnl hnl2 hm hfr hC hL h1 h2 h3 h4 h5 hu hbn hbj
    subst hmz hfrz
    have HNC := Lib.hid hnc
    have HNL := Lib.hid hnl
    have HC := Lib.hid hC
    have HL := Lib.hid hL
    have HL5 := Lib.hid h5
    have HU := Lib.hid hu
    have HIH := Lib.hid ih
    have ln := World.block_lt_of_cell? _ _ hbn
    have lj := World.block_lt_of_cell? _ _ hbj
    clear hnc hnl hC hL h5 hu ih
    go_enter Try.func58, Try.ntmps58
    go_wp2_with fail
    go_loopg [13] (n - fr) (fun g v wr => ∃ x : Nat, v = .int .i64 x ∧ x ≤ n ∧ Hid (g = n - x ∧ joinedF n (fitB n cs color) (m + 1) l fr = anyFrom (fun v => fitB n cs color l v && joinedF n (fitB n cs color) m (l ++ [(v : Int)]) (v + 1)) (n - x) x) ∧ Hid (Below w.heap.size w wr))
    case atStart => exact ⟨fr, rfl, hfr, ⟨rfl, rfl⟩, Below.refl _ _⟩
    case round =>
      obtain ⟨x, rfl, hx, HG, HB⟩ := hrel
      have d1 := (HB.out.cell ln).trans hbn
      have d2 := (HB.out.cell lj).trans hbj
      clear hbn hbj
      by_cases hlt : x < n
      · have HLw := HL.out.below HB.out
        go_wp2_with fail
        refine (contains_calls _ _ _ l x _ HNL.out HLw h3 h4).mono ?_
        rintro e w1 ⟨rfl, hw1⟩
        subst hw1
        go_wp2_with fail
        go_loop [14, 32] (fun s q => ∃ (i : Nat) (b : Bool), s = .bool b ∧ q = .int .i64 i ∧ i ≤ nl ∧ Hid (b = (!(l.any fun u => (x : Int) == u) && (l.take i).all fun u => decide (atZ n u x < cs.length) && cs.getD (atZ n u x).toNat 0 == color))) (fun _ q => nl - (intOf q).toNat)
        case atStart => exact ⟨0, _, rfl, rfl, Nat.zero_le _, (by simp : _ = _)⟩
        case round =>
          obtain ⟨i, b, rfl, rfl, hi, HG2⟩ := hrel
          by_cases hlt2 : i < nl
          · have hil : i < l.length := by have := HNL.out; omega
            obtain ⟨b0, o, rfl, hb0, hc1⟩ := HLw.at i hil
            have hu := HU.out l[i] (List.getElem_mem hil)
            obtain ⟨y, hy⟩ : ∃ y, y = l[i] := ⟨_, rfl⟩
            rw [← hy] at hc1 hu
            have HY := Lib.hid hy
            clear hy
            obtain ⟨hy0, hyn⟩ := hu
            have hxn : (0 : Int) ≤ x ∧ (x : Int) < n := by omega
            have hd0 : decide (atZ n y x < cs.length) = decide (atZ n y x < nc) := by rw [HNC.out]
            cases b
            · have HB0 : Hid (false = (!(l.any fun u => (x : Int) == u) && (l.take (i + 1)).all fun u => decide (atZ n u x < cs.length) && cs.getD (atZ n u x).toNat 0 == color)) := by
                show _ = _
                rw [all_take_succ hil, ← Bool.and_assoc, ← HG2.out]; rfl
              clear hd0
              go_wp2_with fail
              all_goals
                refine (place_at n y x _ _ _ (by omega) (by omega) (by omega) (by omega) (by omega)).mono ?_
                rintro e w1 ⟨rfl, hw1⟩
                subst hw1
                go_wp2_with fail
                go_round
                case rel => exact ⟨i + 1, false, rfl, by go_num, by omega, HB0.out⟩
                case measure => simp [intOf]; omega
            · have hne : y ≠ x := by
                have := HG2.out.symm
                rw [Bool.and_eq_true, Bool.not_eq_true', List.any_eq_false] at this
                intro e
                exact this.1 l[i] (List.getElem_mem hil) (by rw [← HY.out, e]; simp)
              have ha0 := atZ_nonneg (n := n) hne (by omega) (by omega)
              have HB1 : ∀ b', b' = (decide (atZ n y x < cs.length) && cs.getD (atZ n y x).toNat 0 == color) → Hid (b' = (!(l.any fun u => (x : Int) == u) && (l.take (i + 1)).all fun u => decide (atZ n u x < cs.length) && cs.getD (atZ n u x).toNat 0 == color)) := by
                intro b' hb'
                show _ = _
                rw [all_take_succ hil, ← Bool.and_assoc, ← HG2.out, ← HY.out, hb']; rfl
              obtain ⟨t, ht⟩ := Int.eq_ofNat_of_zero_le ha0
              rw [ht] at HB1 hd0
              have HT := Lib.hid ht
              clear ha0 ht
              by_cases htl : t < nc
              · have htl' : t < cs.length := by have := HNC.out; omega
                obtain ⟨bc, oc, rfl, hbc, hcc⟩ := (HC.out.below HB.out).at t htl'
                have HB2 := HB1 (cs[t] == color) (by rw [decide_eq_true (by omega)]; simp [List.getD_eq_getElem?_getD, htl'])
                clear HB1 hd0
                go_wp2_with fail
                all_goals
                  refine (place_at n y x _ _ _ (by omega) (by omega) (by omega) (by omega) (by omega)).mono ?_
                  rw [HT.out]
                  rintro e w1 ⟨rfl, hw1⟩
                  subst hw1
                  go_wp2_with fail
                  go_round
                  case rel => exact ⟨i + 1, _, rfl, by go_num, by omega, HB2.out⟩
                  case measure => simp [intOf]; omega
              · have HB2 := HB1 false (by rw [decide_eq_false (by have := HNC.out; omega)]; rfl)
                clear HB1 hd0
                go_wp2_with fail
                all_goals
                  refine (place_at n y x _ _ _ (by omega) (by omega) (by omega) (by omega) (by omega)).mono ?_
                  rw [HT.out]
                  rintro e w1 ⟨rfl, hw1⟩
                  subst hw1
                  go_wp2_with fail
                  go_round
                  case rel => exact ⟨i + 1, false, rfl, by go_num, by omega, HB2.out⟩
                  case measure => simp [intOf]; omega
          · have hinl : i = l.length := by have := HNL.out; omega
            have HF : Hid (fitB n cs color l x = b) := by
              have := HG2.out
              rw [hinl, List.take_length] at this
              exact this.symm
            clear hinl
            cases b
            · go_wp2_with fail
              go_quiet (fail)
              go_wp2_with fail
              go_roundg (n - (x + 1))
              case measure => have := HG.out.1; omega
              case rel => exact ⟨x + 1, by go_num, by omega, ⟨rfl, by rw [HG.out.2, show n - x = n - (x + 1) + 1 by omega]; simp [anyFrom, HF.out]⟩, below_drewN HB.out _⟩
            · have hsz := HB.out.size
              have HLX := Lib.hid HLw
              have HCX := Lib.hid (HC.out.below HB.out)
              have HXN : Hid (∀ u ∈ l ++ [(x : Int)], 0 ≤ u ∧ u < (n : Int)) := fun u hu => by
                rcases List.mem_append.1 hu with hu | hu
                · exact HU.out u hu
                · have : u = x := by simpa using hu
                  omega
              clear HLw
              go_wp2_with fail
              go_region_held3 (fun w' => w'.cell? ⟨bj, 0, none⟩ = some (.func (.func 58) #[] #[.pointer (some ⟨bn, 0, none⟩), .pointer (some ⟨bj, 0, none⟩)]) ∧ w'.cell? ⟨bn, 0, none⟩ = some (.int .i64 n) ∧ Below wr.heap.size wr w')
                ((refine keep2 d2 d1 ?_; first | assumption | exact (Below.refl _ _).drew | exact ((Below.refl _ wr).alloc (Nat.le_refl _) _).drew | exact Below.alloc (by assumption) (Below.size (by assumption)) _))
                (first | (go_at_call 56; refine (clip_calls _ _ _ _ h3).mono ?_; rintro e w' ⟨rfl, rfl⟩) | (refine step_appg (by rfl) (.tmp 63) (.tmp 65) rfl rfl _ _ l rfl HNL.out (HLX.out.below (((Below.refl _ wr).alloc (Nat.le_refl _) _).drew)) HL5.out _ _ _ [(x : Int)] rfl rfl (rd_one wr _ _ rfl).drew (by simp) (by have := HNL.out; simp; omega) ?_; intro g nn cap' w2 hnn hcap1 hcap2 hrd hbel; have HNN := Lib.hid hnn; clear hnn; have hbW : Below wr.heap.size wr w2 := (((Below.refl _ wr).alloc (Nat.le_refl _) _).drew).trans (hbel.mono (by simp)); clear hbel) | (go_at_call 58; (with_reducible refine (HIH.out C _ nc cc nn cap' (x + 1) _ _ (l ++ [(x : Int)]) w2 (IntWalk.i64_in _ (by omega)) (by rw [IntWalk.i64_in _ (by omega)]; omega) HNC.out (by have := HNN.out; simp at this ⊢; omega) (by have := HNN.out; have := HNL.out; simp at *; omega) (by omega) (by omega) (HCX.out.below hbW) hrd h1 h2 hcap2 hcap1 (fun h => by cases h) HXN.out ((hbW.cell (World.block_lt_of_cell? _ _ d1)).trans d1) ((hbW.cell (World.block_lt_of_cell? _ _ d2)).trans d2)).mono ?_); rintro e w3 ⟨rfl, hbel3⟩; have hbW3 : Below wr.heap.size wr w3 := hbW.trans (hbel3.mono hbW.size); clear hbel3))
              all_goals
                have HB3 := Lib.hid (HB.out.trans (hbW3.mono hsz))
                clear hbW3 hbW HNN hcap1 hcap2 hrd HCX HLX HXN d1 d2
                cases hj : joinedF n (fitB n cs color) m (l ++ [(x : Int)]) (x + 1)
                · have HJ := Lib.hid hj
                  clear hj
                  go_wp2_with fail
                  go_roundg (n - (x + 1))
                  case measure => have := HG.out.1; omega
                  case rel => exact ⟨x + 1, by go_num, by omega, ⟨rfl, by rw [HG.out.2, show n - x = n - (x + 1) + 1 by omega]; simp [anyFrom, HF.out, HJ.out]⟩, HB3.out⟩
                · have HJ := Lib.hid hj
                  clear hj
                  go_wp2_with fail
                  go_ret
                  refine ⟨ret_bool ?_, HB3.out⟩
                  rw [HG.out.2, show n - x = n - (x + 1) + 1 by omega]
                  simp [anyFrom, HF.out, HJ.out]
      · go_wp2_with fail
        go_ret
        refine ⟨ret_bool ?_, HB.out⟩
        rw [HG.out.2, show n - x = 0 by omega]; rfl
end Go.Proofs.Ytplafgmceggcnaa
