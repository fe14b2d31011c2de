/- What is proved: the reference of Clique (contracts of functions of paint, and what they need). No condition beyond those in each statement. -/
import Derived.Test.YtplafgmceggcnaaT
namespace Go.Proofs.Ytplafgmceggcnaa
open Go.RowKit

def ScanR (w : World) (n : Nat) (l : List Int) (G : Nat → Option (List Int)) (res : Option (List Int)) (v : Value) (wr : World) : Prop :=
  ∃ x : Nat, v = .int .i64 x ∧ x ≤ n ∧ Hid (fromOf l ≤ x ∧ res = firstFrom G (n - x) x) ∧ Hid (Below w.heap.size w wr)
def AllI (p : Int → Bool) (l : List Int) (ln : Nat) (s v : Value) : Prop :=
  ∃ (i : Nat) (b : Bool), s = .bool b ∧ v = .int .i64 i ∧ i ≤ ln ∧ Hid (b = !((l.take i).any p))
theorem any_take_succ2 {p : Int → Bool} {xs : List Int} {k : Nat} (hk : k < xs.length) : (xs.take (k + 1)).any p = ((xs.take k).any p || p xs[k]) := by
  rw [List.take_succ_eq_append_getElem hk, List.any_append]; simp

set_option maxHeartbeats 4000000 in
theorem refclique_calls (n : Nat) (hn : n ≤ 8) (cs : List Int) (color : Int) (A : Option Addr) (nc cap : Nat) (hnc : nc = cs.length) (_hcap : nc ≤ cap) (_hcap2 : cap ≤ 9223372036854775807) (hcl : ∀ u v : Int, 0 ≤ u → u < v → v < n → placeZ n u v < cs.length) (f : Nat) :
    ∀ (l : List Int) (k : Int) (L : Option Addr) (ln cl : Nat) (w : World), ln = l.length → k = l.length + f → 0 < l.length + f → l.length + f ≤ 100 → Ris n l → Rd w A cs → Rd w L l → ln ≤ cl → cl ≤ 9223372036854775807 → (L = none → cl = 0) →
      Calls Try.prog 22 #[.int .i64 n, .slice A nc cap, .int .i64 color, .int .i64 k, .slice L ln cl] w fun e w' =>
        ∃ v, e = .returned v ∧ OptSl w' v (cliqueF (okP cs n color) n f l) ∧ Below w.heap.size w w' := by
  have HNC := Lib.hid hnc
  clear hnc
  induction f with
  | zero =>
    intro l k L ln cl w hln hk hpos hll hr hA hL h1 h2 h3
    obtain ⟨b, o, rfl, hb, hc⟩ := hL (by intro e; subst e; simp at hpos)
    have hk' : ((ln : Int) == k) = true := by rw [hk, hln]; simp
    have HL := Lib.hid hL
    have HLN := Lib.hid hln
    clear hk hL hc hln
    go_enter Try.func22, Try.ntmps22
    go_wp2_with fail
    go_ret
    exact ⟨_, rfl, ⟨⟨_, _, _, rfl⟩, _, cl, by rw [HLN.out]; rfl, by have := HLN.out; omega, h2, h3, HL.out⟩, Below.refl _ _⟩
  | succ f ih =>
    intro l k L ln cl w hln hk _ hll hr hA hL h1 h2 h3
    have qN : ∀ (w : World) (a : Option Addr) (n c n' c' : Nat), (binOp .neq 22 (.slice a n c) (.slice none n' c')).run Try.prog w = .ok (.bool (!a.isNone)) w := fun w a n c n' c' => run_neq_slice_nil_any w _ _ a n c n' c' Try.underlying22
    have hk' : ((ln : Int) == k) = false := by rw [hk, hln]; simp; omega
    have HA := Lib.hid hA
    have HL := Lib.hid hL
    have HK := Lib.hid hk
    have HR := Lib.hid hr
    have HIH := Lib.hid ih
    have HCL := Lib.hid hcl
    have HL3 := Lib.hid h3
    clear hk hL hA hr ih hcl h3
    have hll' : ln ≤ 100 := by omega
    have HLN := Lib.hid hln
    clear hln
    have hk0 : ln = 0 → ((0 : Int) == k) = false := fun e => by subst e; exact hk'
    have hk1 : ∀ m : Nat, ln = m + 1 → (((m : Int) + 1) == k) = false := fun m e => by subst e; exact hk'
    clear hk'
    rcases Nat.eq_zero_or_pos ln with hz | hz
    case' inl =>
      subst hz
      have hk2 := hk0 rfl
      have HF : Hid (fromOf l = 0) := by
        have : l = [] := List.eq_nil_of_length_eq_zero HLN.out.symm
        subst this; rfl
      clear hk0 hk1
      go_enter Try.func22, Try.ntmps22
      go_wp2_with fail
    case' inr =>
      clear hk0
      obtain ⟨m, rfl⟩ : ∃ m, ln = m + 1 := ⟨ln - 1, by omega⟩
      have hk2 := hk1 m rfl
      obtain ⟨b, o, rfl, hb, hc⟩ := HL.out.at m (by have := HLN.out; omega)
      have hm : m < l.length := by have := HLN.out; omega
      have hu : 0 ≤ l[m] ∧ l[m] ≤ 8 := by
        have := HR.out.2 l[m] (List.getElem_mem hm)
        have := HR.out.1
        omega
      obtain ⟨u, hu'⟩ := Int.eq_ofNat_of_zero_le hu.1
      have HF : Hid (fromOf l = u + 1) := by
        show fromOf l = u + 1
        unfold fromOf
        rw [List.getLast?_eq_getElem?]
        have : l.length - 1 = m := by have := HLN.out; omega
        rw [this, List.getElem?_eq_getElem hm, hu']
        rfl
      rw [hu'] at hu hc
      clear hk1 hu'
      go_enter Try.func22, Try.ntmps22
      go_wp2_with fail
      clear hc
    all_goals
      clear hk2
      go_loopw [12] (ScanR w n l (fun v => if okP cs n color l v then cliqueF (okP cs n color) n f (l ++ [(v : Int)]) else none) (cliqueF (okP cs n color) n (f + 1) l)) (fun v _ => n - (intOf v).toNat)
      case atStart => exact ⟨fromOf l, by rw [HF.out]; rfl, HR.out.1, ⟨Nat.le_refl _, rfl⟩, Below.refl _ _⟩
      case round =>
        obtain ⟨x, rfl, hxn, HG, HB⟩ := hrel
        by_cases hx : x < n
        · go_wp2_with fail
          have HLw := HL.out.below HB.out
          have HAw := HA.out.below HB.out
          have hle1 := Nat.le_of_eq HLN.out
          have hle2 := Nat.le_of_eq HLN.out.symm
          go_loop [13, 14] (AllI (fun u => cs.getD (placeZ n u x).toNat 0 != color) l l.length) (fun _ v => l.length - (intOf v).toNat)
          case atStart => exact ⟨0, true, rfl, rfl, Nat.zero_le _, rfl⟩
          case round =>
            obtain ⟨i, b', rfl, rfl, hi, HI⟩ := hrel
            by_cases hil : i < l.length
            · try (exfalso; omega)
              all_goals
                obtain ⟨bb, oo, hbb, hbl, hc1⟩ := HLw.at i hil
                obtain ⟨y, hy⟩ : ∃ y, y = l[i] := ⟨_, rfl⟩
                have HY := Lib.hid hy
                have hyr := HR.out.2 l[i] (List.getElem_mem hil)
                have hxx := HG.out.1
                rw [← hy] at hc1 hyr
                clear hy
                have hy2 : 0 ≤ y ∧ y < x := by omega
                clear hyr hxx
                have HI2 : Hid ((!((l.take (i + 1)).any fun u => cs.getD (placeZ n u x).toNat 0 != color)) = (b' && cs.getD (placeZ n y x).toNat 0 == color)) := by
                  show _ = _
                  rw [any_take_succ2 hil, HY.out, HI.out]
                  cases ((l.take i).any fun u => cs.getD (placeZ n u x).toNat 0 != color) <;> simp [bne]
                have hp1 := HCL.out y x hy2.1 hy2.2 (by omega)
                have hp0 : 0 ≤ placeZ n y x := by
                  have := atZ_nonneg (n := n) (y := y) (x := x) (by omega) (by omega) (by omega)
                  unfold atZ at this
                  rwa [show min y x = y by omega, show max y (x : Int) = x by omega] at this
                obtain ⟨t, ht⟩ := Int.eq_ofNat_of_zero_le hp0
                rw [ht] at HI2 hp1
                have HT := Lib.hid ht
                clear hp0 ht
                have htl : t < cs.length := by omega
                have htc : t < nc := by have := HNC.out; omega
                obtain ⟨b2, o2, hb2, hbl2, hc2⟩ := HAw.at t htl
                have HI3 : Hid ((!((l.take (i + 1)).any fun u => cs.getD (placeZ n u x).toNat 0 != color)) = (b' && cs[t] == color)) := by
                  show _ = _
                  rw [HI2.out]; simp [List.getD_eq_getElem?_getD, htl]
                cases b'
                · clear hc1 hc2 hbb hb2
                  go_wp2_with fail
                  go_round
                  case rel => exact ⟨i + 1, false, rfl, by go_num, by omega, HI3.out.symm⟩
                  case measure => simp [intOf]; omega
                · go_wp2_with fail
                  refine (pair_calls n y x _ hy2.1 (by omega) (by omega) (by omega)).mono ?_
                  rw [HT.out]
                  rintro e w1 ⟨rfl, rfl⟩
                  go_wp2_with fail
                  go_simp
                  go_round
                  case rel => exact ⟨i + 1, _, rfl, by go_num, by omega, HI3.out.symm⟩
                  case measure => simp [intOf]; omega
            · have HOK : Hid (okP cs n color l x = b') := by
                have := HI.out
                rw [show i = l.length by omega, List.take_length] at this
                exact this.symm
              cases b'
              · go_wp2_with fail
                go_simp
                go_roundw
                case rel => exact ⟨x + 1, by go_num, by omega, ⟨by have := HG.out.1; omega, by
                  rw [HG.out.2, show n - x = n - (x + 1) + 1 by omega]
                  exact firstFrom_none (by simp only [HOK.out]; rfl)⟩, HB.out⟩
                case measure => simp [intOf]; omega
              · obtain ⟨v1, w2, A', nn, cc, w3, hr1, hr2, hnn, hcc1, hcc2, hrd, hb3⟩ := cp_push (x : Int) HLN.out HLw (fun h => ⟨HL3.out h, by
                  have h0 := HL3.out h
                  exact List.eq_nil_of_length_eq_zero (by omega)⟩) (by omega)
                have HR1 := Lib.hid hr1
                have HR2 := Lib.hid hr2
                have HB3 := Lib.hid (HB.out.trans (hb3.mono HB.out.size))
                have CI := Lib.hid (HIH.out (l ++ [(x : Int)]) k (some A') nn cc w3 hnn (by rw [HK.out]; simp; omega) (by simp; omega) (by simp; omega) (ris_snoc HR.out HG.out.1 hx) (HA.out.below HB3.out) hrd hcc1 hcc2 (fun h => by cases h))
                clear hr1 hr2 hnn hcc1 hcc2 hrd hb3
                go_wp2_with (first | (at_builtin; refine wpList_app rfl (.tmp 64) (.tmp 65) 22 22 rfl rfl _ _ rfl rfl HR1.out ?_) | (at_builtin; refine wpList_app rfl (.tmp 66) (.tmp 68) 22 22 rfl rfl _ _ rfl rfl HR2.out ?_))
                refine CI.out.mono ?_
                rintro e w4 ⟨v, rfl, ho, hB4⟩
                have HB4 := Lib.hid (HB3.out.trans (hB4.mono HB3.out.size))
                clear hB4
                cases hg : cliqueF (okP cs n color) n f (l ++ [(x : Int)]) with
                | none =>
                  rw [hg] at ho
                  obtain rfl : v = .slice none 0 0 := ho
                  have HG2 := Lib.hid hg
                  clear hg
                  go_wp2_with fail
                  go_simp
                  go_roundw
                  case rel => exact ⟨x + 1, by go_num, by omega, ⟨by have := HG.out.1; omega, by
                    rw [HG.out.2, show n - x = n - (x + 1) + 1 by omega]
                    exact firstFrom_none (by simp only [HOK.out, if_true]; exact HG2.out)⟩, HB4.out⟩
                  case measure => simp [intOf]; omega
                | some q =>
                  rw [hg] at ho
                  have HO := Lib.hid ho
                  obtain ⟨⟨a', n', c', rfl⟩, _⟩ := ho
                  have HG2 := Lib.hid hg
                  clear hg
                  go_wp2_with fail
                  go_ret
                  exact ⟨_, rfl, by
                    rw [HG.out.2, show n - x = n - (x + 1) + 1 by omega, firstFrom_some (by simp only [HOK.out, if_true]; exact HG2.out)]
                    exact HO.out, HB4.out⟩
        · have HE : Hid (cliqueF (okP cs n color) n (f + 1) l = none) := by
            have := HG.out.2
            rw [show n - x = 0 by omega] at this; exact this
          go_wp2_with fail
          go_ret
          exact ⟨_, rfl, by rw [HE.out]; rfl, HB.out⟩
end Go.Proofs.Ytplafgmceggcnaa
