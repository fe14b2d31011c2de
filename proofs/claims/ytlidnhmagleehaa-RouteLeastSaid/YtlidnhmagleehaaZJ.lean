/- What is proved: the reference tries all orders. No condition beyond those in each statement. -/
import Derived.Test.YtlidnhmagleehaaZI
namespace Go.Proofs.Ytlidnhmagleehaa
open Go.RowKit

theorem pick_nil (cost : List Int → Int) (a : Option (Int × List Int)) : pick cost a [] = a := by cases a <;> rfl
theorem rdE_b2 {N gv go : Nat} {w w' : World} {g : Nat} {es : List (Int × Int)} (h : RdE w (some ⟨g, 0, none⟩) es) (hb : B2 N gv go w w') (h1 : g ≠ gv) (h2 : g ≠ go) : RdE w' (some ⟨g, 0, none⟩) es := fun hne => by
  obtain ⟨b, o, e', hlt, hc⟩ := h hne
  have e := e'
  simp at e
  obtain ⟨rfl, rfl⟩ := e
  have e1 := hb.2 g hlt h1 h2
  exact ⟨g, 0, rfl, Nat.lt_of_lt_of_le hlt hb.1.size, fun i hi => ⟨(World.cell?_of_block (a := ⟨g, 0 + i * 2, none⟩) e1).trans (hc i hi).1, (World.cell?_of_block (a := ⟨g, 0 + i * 2 + 1, none⟩) e1).trans (hc i hi).2⟩⟩
def LoopI (N gP gv go k f : Nat) (es : List (Int × Int)) (pre : List Int) (st : Nat → Option (Int × List Int)) (w : World) (q : Value) (wr : World) : Prop :=
  ∃ v : Nat, q = .int .i64 v ∧ v ≤ k ∧ Hid (Bst N gP gv go (fun i => pick (cst es i) (st i) (loopF k f pre v)) wr) ∧ Hid (B2 N gv go w wr)
set_option maxHeartbeats 8000000 in
theorem Least_calls (k : Nat) (hk : 1 ≤ k ∧ k ≤ 8) (gb ne ce : Nat) (es : List (Int × Int)) (N gP gv go : Nat) (hne : ne = es.length) (h30 : ne ≤ 100) (hg : IsG k es) (hgb : gb ≠ gv ∧ gb ≠ go) (hle : ne ≤ ce) (hce : ce ≤ 9223372036854775807) :
    ∀ (f : Nat) (pre : List Int) (m ga ca : Nat) (st : Nat → Option (Int × List Int)) (w : World), m = pre.length → pre.length + f = k → pre.Nodup → (∀ v ∈ pre, 0 ≤ v ∧ v < k) → RdE w (some ⟨gb, 0, none⟩) es → Rd w (some ⟨ga, 0, none⟩) pre → ga ≠ gv ∧ ga ≠ go → m ≤ ca → ca ≤ 9223372036854775807 → Bst N gP gv go st w →
      Calls Try.prog 41 #[.int .i64 k, .slice (some ⟨gb, 0, none⟩) ne ce, .slice (some ⟨ga, 0, none⟩) m ca, .pointer (some ⟨gP, 0, none⟩)] w fun e w' => e = .returned (.tuple #[]) ∧ Bst N gP gv go (fun i => pick (cst es i) (st i) (extF k f pre)) w' ∧ B2 N gv go w w' := by
  intro f
  induction f with
  | zero =>
    intro pre m ga ca st w hm hf hnd hin hE hA hga hl hc hst
    have hmk : m = k := by omega
    subst hmk
    have ho : IsOrd m pre := isOrd_iff.2 ⟨by omega, hnd, hin⟩
    refine (Least_end m hk (some ⟨gb, 0, none⟩) ne ce es N gP gv go ga ca pre st w hne h30 hg hE hle hce ho hA hl hc hga hst).mono ?_
    rintro e w' ⟨he, h1, h2⟩
    refine ⟨he, bst_congr h1 (fun i hi => ?_), h2⟩
    rw [ext_zero, pick_one]
    unfold stUp
    rw [if_pos hi]
  | succ f ih =>
    intro pre m ga ca st w hm hf hnd hin hE hA hga hl hc hst
    have IH := Lib.hid ih
    clear ih
    have hN : N ≤ w.heap.size := by obtain ⟨_, _, hq, _⟩ := hst; have := hq.lt; omega
    have t0 : decide ((m : Int) = (k : Int)) = false := decide_eq_false (by omega)
    have t1 : ¬ (m = k) := by omega
    have HF := Lib.hid hf
    have HM := Lib.hid hm
    have HND := Lib.hid hnd
    have HIN := Lib.hid hin
    have HE := Lib.hid hE
    have HA := Lib.hid hA
    have HGA := Lib.hid hga
    have HGB := Lib.hid hgb
    have HST := Lib.hid hst
    have HN := Lib.hid hN
    have CH := Lib.hid (fun (v : Nat) (W : World) (h : Rd W (some ⟨ga, 0, none⟩) pre) => has_calls (some ⟨ga, 0, none⟩) m ca pre v W hm h hl hc)
    clear hf hm hnd hin hE hA hga hgb hst hN hne hg
    go_enter Try.func41, Try.ntmps41
    go_wp2_with fail
    go_loopw [13] (LoopI N gP gv go k f es pre st w) (fun q _ => k - (intOf q).toNat)
    case atStart => exact ⟨0, rfl, Nat.zero_le _, Lib.hid (bst_congr HST.out (fun i _ => by rw [loop_zero, pick_nil])), Lib.hid (B2.refl _ _ _ _)⟩
    case round =>
      obtain ⟨v, rfl, hv, HS, HBB⟩ := hrel
      obtain ⟨W, hW⟩ : ∃ q, q = wr := ⟨_, rfl⟩
      rw [← hW] at HS HBB ⊢
      clear hW
      by_cases hlt : v < k
      · have HA2 := Lib.hid (rd_b2 HA.out HBB.out HGA.out.1 HGA.out.2)
        have wv : IntKind.i64.wrap ((v : Int) + 1) = (v : Int) + 1 := IntWalk.i64_in _ (by omega)
        cases hin : inL pre v
        · have HI : Hid ((pre.any fun u => u == (v : Int)) = false) := hin
          have hNW : N ≤ W.heap.size := Nat.le_trans HN.out HBB.out.1.size
          obtain ⟨g1, c1, w1, hr1, ha1, hB1⟩ := cpi_one (w := W) (nl := m) (cl := ca) HM.out HA2.out (fun e => by cases e) (by have := HF.out; omega)
          obtain ⟨g2, c2, w2, hr2, ha2, hB2⟩ := arr_push (v : Int) HM.out ha1 hB1.size (by have := HF.out; omega)
          have hBW := hB1.trans hB2
          have hbd := ha2.bd
          have hg2 := ha2.lt
          have hq := HS.out
          have h5 := hq.below hNW hBW
          have hlen : m + 1 = (pre ++ [(v : Int)]).length := by rw [List.length_append, HM.out]; rfl
          have hnd2 : (pre ++ [(v : Int)]).Nodup := by
            rw [List.nodup_append]
            refine ⟨HND.out, by simp, fun a ha b hb => ?_⟩
            have e : b = (v : Int) := by simpa using hb
            subst e
            rintro rfl
            have := HI.out
            rw [List.any_eq_false] at this
            exact this _ ha (by simp)
          have hin2 : ∀ u ∈ pre ++ [(v : Int)], 0 ≤ u ∧ u < k := by
            intro u hu
            rcases List.mem_append.1 hu with h | h
            · exact HIN.out u h
            · have : u = (v : Int) := by simpa using h
              omega
          have hgl : gv < W.heap.size ∧ go < W.heap.size := by obtain ⟨_, _, hq, _⟩ := hq; exact ⟨hq.lt.1.2, hq.lt.2.1.2⟩
          have hB2W : B2 N gv go W w2 := B2.of_below hNW hBW
          have hE2 := rdE_b2 HE.out (HBB.out.trans hB2W) HGB.out.1 HGB.out.2
          have CI := Lib.hid (IH.out (pre ++ [(v : Int)]) (m + 1) g2 c2 _ w2 hlen (by rw [List.length_append]; have := HF.out; simp; omega) hnd2 hin2 hE2 ha2.rd (by omega) (by rw [hlen]; exact hbd.1) hbd.2 h5)
          have HRUN1 := Lib.hid hr1
          have HRUN2 := Lib.hid hr2
          have HB9 := Lib.hid (HBB.out.trans hB2W)
          have HNX := Lib.hid (loop_yes (k := k) (f := f) (pre := pre) (v := v) hin)
          clear hr1 hr2 ha1 ha2 hB1 hB2 hBW hbd hg2 hq h5 hlen hnd2 hin2 hgl hB2W hE2 hNW hin
          go_wp2_with fail
          refine (CH.out v _ HA2.out).mono ?_
          rintro e w9 ⟨rfl, rfl⟩
          rw [HI.out]
          go_wp2_with (at_builtin; first | refine wpList_app rfl (.tmp 82) (.tmp 83) 27 27 rfl rfl _ _ rfl rfl HRUN1.out ?_ | refine wpList_app rfl (.tmp 84) (.tmp 86) 27 27 rfl rfl _ _ rfl rfl HRUN2.out ?_)
          refine CI.out.mono ?_
          rintro e w9 ⟨rfl, h6, h7⟩
          have H6 := Lib.hid h6
          have H7 := Lib.hid (HB9.out.trans h7)
          clear h6 h7
          go_wp2_with fail
          go_simp
          go_roundw
          case rel => exact ⟨v + 1, by go_num, by omega, Lib.hid (bst_congr H6.out (fun i _ => by rw [HNX.out, pick_append])), H7⟩
          case measure => simp [intOf]; omega
        · have HI : Hid ((pre.any fun u => u == (v : Int)) = true) := hin
          have HNX := Lib.hid (loop_no (k := k) (f := f) (pre := pre) (v := v) hin)
          clear hin
          go_wp2_with fail
          refine (CH.out v _ HA2.out).mono ?_
          rintro e w9 ⟨rfl, rfl⟩
          rw [HI.out]
          go_wp2_with fail
          go_simp
          go_roundw
          case rel => exact ⟨v + 1, by go_num, by omega, Lib.hid (bst_congr HS.out (fun i _ => by rw [HNX.out])), HBB⟩
          case measure => simp [intOf]; omega
      · have e : v = k := by omega
        subst e
        have HX := Lib.hid (bst_congr HS.out (st' := fun i => pick (cst es i) (st i) (extF v (f + 1) pre)) (fun i _ => by rw [loop_end]))
        go_wp2_with fail
        first
          | (go_end0; exact ⟨rfl, HX.out, HBB.out⟩)
          | (refine bodyPost_ret (results_none rfl _ _ _) rfl ?_; exact ⟨rfl, HX.out, HBB.out⟩)
end Go.Proofs.Ytlidnhmagleehaa
