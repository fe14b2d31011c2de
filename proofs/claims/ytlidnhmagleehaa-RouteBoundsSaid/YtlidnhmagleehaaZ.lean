/- What is proved: Reverse, Turned, the law of reversed orders (G7). No condition beyond those in each statement. -/
import Derived.Test.YtlidnhmagleehaaY
namespace Go.Proofs.Ytlidnhmagleehaa
open Go.RowKit

/-- What Reverse returns. -/
def RevR (w0 : World) (xs : List Int) (e : Ending) (w' : World) : Prop :=
  Below w0.heap.size w0 w' ∧ ((1 ≤ xs.length ∧ xs.length ≤ 8 ∧ IsOrd xs.length xs ∧ ∃ g c, e = .returned (.tuple #[.slice (some ⟨g, 0, none⟩) xs.length c, .int .i64 0]) ∧ Arr w' w0.heap.size g c xs.reverse) ∨
    (¬ (1 ≤ xs.length ∧ xs.length ≤ 8 ∧ IsOrd xs.length xs) ∧ e = .returned (.tuple #[.slice none 0 0, .int .i64 2])))
set_option maxHeartbeats 4000000 in
theorem Reverse_calls (A : Option Addr) (m c : Nat) (xs : List Int) (w : World) (hm : m = xs.length) (hA : Rd w A xs) (hl : m ≤ c) (hc : c ≤ 9223372036854775807) :
    Calls Try.prog 33 #[.slice A m c] w (RevR w xs) := by
  have hm0 : (0 : Int) ≤ (m : Int) := by omega
  by_cases hsz : 1 ≤ m ∧ m ≤ 8
  · obtain ⟨h1, h2⟩ := hsz
    have CP := Lib.hid (places_calls m ⟨h1, h2⟩ A m c xs w hm hA hl hc)
    have HM := Lib.hid hm
    have t1 : decide ((m : Int) < 1) = false := decide_eq_false (by omega)
    have t2 : decide ((m : Int) > 8) = false := decide_eq_false (by omega)
    have t3 : decide (8 < m) = false := decide_eq_false (by omega)
    have t4 : decide (m < 1) = false := decide_eq_false (by omega)
    have t5 : ¬ (m = 0) := by omega
    by_cases ho : IsOrd m xs
    · have HO := Lib.hid ho
      have HPL := Lib.hid (places_ok ho)
      have HPN : Hid ((posF xs).length = m) := by show _ = _; rw [posF_len, hm]
      have HRD := Lib.hid hA
      clear hm hA ho
      go_enter Try.func33, Try.ntmps33
      go_wp2_with fail
      refine CP.out.mono ?_
      rintro e w1 ⟨hB, h2⟩
      rw [HPL.out] at h2
      obtain ⟨g1, c1, rfl, _⟩ := h2
      obtain ⟨b, off, e, hlt, _⟩ := HRD.out (by intro e; have := HM.out; rw [e] at this; simp at this; omega)
      subst e
      have HRD := Lib.hid (HRD.out.below hB)
      have HS1 := Lib.hid hB.size
      have HB := Lib.hid hB
      clear hB
      go_wp2_with fail
      refine (clone_calls ⟨b, off, none⟩ m c xs w1 HM.out HRD.out (by have := HM.out; omega)).mono ?_
      rintro e w2 ⟨g2, c2, rfl, ha2, hB2⟩
      have HA2 := Lib.hid ha2
      have HS := Lib.hid hB2.size
      have HB := Lib.hid (HB.out.trans (hB2.mono HB.out.size))
      clear ha2 hB2
      go_wp2_with fail
      refine (reverse_calls w1.heap.size g2 c2 xs 0 m c2 w2 HA2.out (by have := HM.out; omega) (by have := HM.out; omega) (by have := HM.out; omega)).mono ?_
      rintro e w3 ⟨rfl, ha3, hB3⟩
      have HA3 := Lib.hid ha3
      have HB1 := Lib.hid hB3.1
      clear ha3 hB3
      go_wp2_with fail
      go_ret2
      have hml := HM.out
      refine ⟨HB.out.trans (HB1.out.mono HS1.out), .inl ⟨by omega, by omega, hml ▸ HO.out, g2, c2, by rw [← hml]; rfl, ?_⟩⟩
      have ha := HA3.out.weaken HS1.out
      simpa using ha
    · have HPL := Lib.hid (places_no ho)
      have HO := Lib.hid ho
      clear hm hA ho
      go_enter Try.func33, Try.ntmps33
      go_wp2_with fail
      refine CP.out.mono ?_
      rintro e w1 ⟨hB, h2⟩
      rw [HPL.out] at h2
      obtain rfl := h2
      have HB := Lib.hid hB
      clear hB
      go_wp2_with fail
      go_ret2
      exact ⟨HB.out, .inr ⟨fun h => HO.out (HM.out ▸ h.2.2), rfl⟩⟩
  · have HN : Hid (¬ (1 ≤ xs.length ∧ xs.length ≤ 8 ∧ IsOrd xs.length xs)) := by
      rw [← hm]
      exact fun h => hsz ⟨h.1, h.2.1⟩
    clear hm hA
    by_cases h0 : m = 0
    · subst h0
      go_enter Try.func33, Try.ntmps33
      go_wp2_with fail
      go_ret2
      exact ⟨Below.refl _ _, .inr ⟨HN.out, rfl⟩⟩
    · have t1 : decide ((m : Int) < 1) = false := decide_eq_false (by omega)
      have t2 : decide ((m : Int) > 8) = true := decide_eq_true (by omega)
      have t3 : decide (8 < m) = true := decide_eq_true (by omega)
      have t4 : decide (m < 1) = false := decide_eq_false (by omega)
      have t5 : (8 : Int) < (m : Int) := by omega
      have t6 : 8 < m := by omega
      clear hsz
      go_enter Try.func33, Try.ntmps33
      go_wp2_with fail
      go_ret2
      exact ⟨Below.refl _ _, .inr ⟨HN.out, rfl⟩⟩

theorem arr_push {w : World} {base g c n : Nat} {xs : List Int} (x : Int) (hn : n = xs.length) (h : Arr w base g c xs) (hb : base ≤ w.heap.size) (hl : xs.length ≤ 1000) :
    ∃ g' c' w', (Builtin.append_ #[27, 27] 27 #[.slice (some ⟨g, 0, none⟩) n c, .slice (some ⟨w.heap.size, 0, none⟩) 1 1]).run Try.prog (w.alloc (.cells #[.int .i64 x] 3)) = .ok (.slice (some ⟨g', 0, none⟩) (n + 1) c') w' ∧ Arr w' base g' c' (xs ++ [x]) ∧ Below base w w' := by
  subst hn
  obtain ⟨A, n', c', w', hrun, ho, hb'⟩ := ow_push x h hb hl
  rcases ho.2 with ⟨e, _⟩ | ⟨g', cap, cur, e, hr⟩
  · cases e
  · simp at e
    obtain ⟨rfl, rfl, rfl⟩ := e
    exact ⟨g', c', w', hrun, by unfold Arr; simpa using ho, hb'⟩
theorem rev_step (xs : List Int) (i : Nat) (hi : i < xs.length) : xs.reverse.take (xs.length - (i + 1)) ++ [xs[i]] = xs.reverse.take (xs.length - i) := by
  have e : xs.length - i = (xs.length - (i + 1)) + 1 := by omega
  have h1 : xs.length - (i + 1) < xs.reverse.length := by simp; omega
  have h2 : xs.length - 1 - (xs.length - (i + 1)) = i := by omega
  rw [e, List.take_succ_eq_append_getElem h1]
  simp [h2]
/-- What Turned returns. -/
def TurnR (w0 : World) (xs : List Int) (e : Ending) (w' : World) : Prop :=
  ∃ g c, e = .returned (.slice (some ⟨g, 0, none⟩) xs.length c) ∧ Arr w' w0.heap.size g c xs.reverse ∧ Below w0.heap.size w0 w'
def TurnI (w : World) (xs : List Int) (m : Nat) (s q : Value) (wr : World) : Prop :=
  ∃ (i : Nat) (z : Int) (g c : Nat), q = .int .i64 z ∧ z = (i : Int) - 1 ∧ i ≤ m ∧ s = .slice (some ⟨g, 0, none⟩) (m - i : Nat) c ∧ Hid (Arr wr w.heap.size g c (xs.reverse.take (m - i))) ∧ Hid (Below w.heap.size w wr)
set_option maxHeartbeats 4000000 in
theorem Turned_calls (A : Option Addr) (m c : Nat) (xs : List Int) (w : World) (hm : m = xs.length) (hA : Rd w A xs) (_hl : m ≤ c) (_hc : c ≤ 9223372036854775807) (hm1 : m ≤ 1000) :
    Calls Try.prog 34 #[.slice A m c] w (TurnR w xs) := by
  have HM := Lib.hid hm
  have HA := Lib.hid hA
  have wl : IntKind.i64.wrap ((m : Int) - 1) = (m : Int) - 1 := IntWalk.i64_in _ (by omega)
  clear hm hA
  go_enter Try.func34, Try.ntmps34
  go_wp2_with fail
  go_loopw [3, 4] (TurnI w xs m) (fun _ q _ => (intOf q + 1).toNat)
  case atStart => exact ⟨m, (m : Int) - 1, w.heap.size, 0, rfl, rfl, Nat.le_refl _, by simp, Lib.hid (by simpa using arr_newE w _ _ (Nat.le_refl _) rfl), Lib.hid ((Below.refl _ _).alloc (Nat.le_refl _) _)⟩
  case round =>
    obtain ⟨i', z, g3, c3, rfl, hz, hiL, rfl, HO3, HB3⟩ := hrel
    obtain ⟨W3, hW3⟩ : ∃ q, q = wr := ⟨_, rfl⟩
    rw [← hW3] at HO3 HB3 ⊢
    clear hW3
    by_cases h0 : i' = 0
    · subst h0
      have hz2 : z = -1 := by omega
      clear hz
      subst hz2
      go_wp2_with fail
      go_ret
      have ho := HO3.out
      rw [Nat.sub_zero, List.take_of_length_le (by rw [List.length_reverse]; have := HM.out; omega)] at ho
      exact ⟨g3, c3, by rw [Nat.sub_zero, HM.out]; rfl, ho, HB3.out⟩
    · obtain ⟨i, rfl⟩ : ∃ i, i' = i + 1 := ⟨i' - 1, by omega⟩
      have hz2 : z = (i : Int) := by omega
      clear hz h0
      subst hz2
      have hil : i < xs.length := by have := HM.out; omega
      obtain ⟨b, o', rfl, hb, hc1⟩ := HA.out.at i hil
      have d1 := (HB3.out.cell (p := ⟨b, o' + i, none⟩) hb).trans hc1
      have hstep := rev_step xs i hil
      rw [← HM.out] at hstep
      obtain ⟨g', c', w', hrun, ho, hb'⟩ := arr_push xs[i] (n := m - (i + 1)) (by simp; have := HM.out; omega) HO3.out HB3.out.size (by simp; omega)
      rw [hstep] at ho
      obtain ⟨X, hX⟩ : ∃ X, X = xs[i] := ⟨_, rfl⟩
      rw [← hX] at d1 hrun
      have HRUN := Lib.hid hrun
      have HO2 := Lib.hid ho
      have HB2 := Lib.hid (HB3.out.trans hb')
      have wi : IntKind.i64.wrap ((i : Int) - 1) = (i : Int) - 1 := IntWalk.i64_in _ (by omega)
      clear hc1 hstep hX hrun ho hb'
      go_wp2_with (at_builtin; refine wpList_app rfl (.tmp 13) (.tmp 18) 27 27 rfl rfl _ _ rfl rfl HRUN.out ?_)
      go_roundw
      case rel => exact ⟨i, (i : Int) - 1, g', c', by go_num, rfl, by omega, by (congr 1; omega), HO2, HB2⟩
      case measure => simp [intOf]
set_option maxHeartbeats 8000000 in
theorem reversedlaw_calls (x : Int) (A : Option Addr) (m c : Nat) (ps : List (Int × Int)) (B : Option Addr) (m2 c2 : Nat) (bs : List Int) (w : World) (hx : 0 ≤ x ∧ x ≤ 255) (hm : m = ps.length) (hA : RdP w A ps) (hl : m ≤ c) (hc : c ≤ 9223372036854775807) (hps : ∀ p ∈ ps, (0 ≤ p.1 ∧ p.1 ≤ 255) ∧ (0 ≤ p.2 ∧ p.2 ≤ 255))
    (hm2 : m2 = bs.length) (hB : RdU w B bs) (hl2 : m2 ≤ c2) (hc2 : c2 ≤ 9223372036854775807) (hbs : ∀ b ∈ bs, 0 ≤ b ∧ b ≤ 255) :
    Calls Try.prog 13 #[.int .u8 x, .slice A m c, .slice B m2 c2] w fun e w' => e = .returned (.bool true) ∧ Below w.heap.size w w' := by
  have CM := Lib.hid (made_calls x A m c ps 8 w hx (by omega) hm hA hl hc hps)
  have CO := Lib.hid (fun (n : Nat) (hn : n ≤ 20) (W : World) (h : RdU W B bs) => order_calls n hn B m2 c2 bs W hm2 h hl2 hc2 hbs)
  have HBU := Lib.hid hB
  clear hm hA hps hm2 hB hbs
  go_enter Try.func13, Try.ntmps13
  go_wp2_with fail
  refine CM.out.mono ?_
  rintro e w1 ⟨k, es, g, cg, hk, h20, hg, rfl, ho, hB⟩
  have HBU := Lib.hid (HBU.out.below hB)
  have HO := Lib.hid ho
  have HG := Lib.hid hg
  have HW := Lib.hid hB
  have hbd := ho.bd
  have h30 : es.length ≤ 30 := by omega
  obtain ⟨L, hL⟩ : ∃ L, L = es.length := ⟨_, rfl⟩
  rw [← hL] at hbd h20 ⊢
  have HL := Lib.hid hL
  have H30 := Lib.hid h30
  clear ho hB hg hL h30
  go_wp2_with fail
  refine (CO.out k (by omega) _ HBU.out).mono ?_
  rintro e w2 ⟨o, go, co, hord, rfl, har, hB2⟩
  have HE := Lib.hid (HO.out.rd.below hB2)
  have HORD := Lib.hid hord
  have HAR := Lib.hid har.rd
  have HW := Lib.hid (HW.out.trans (hB2.mono HW.out.size))
  have hkc := har.bd
  rw [hord.len] at hkc
  have HOL := Lib.hid hord.len
  have hbad := meas_ok hk H30.out HG.out hord
  have HM : Hid (MeasR k es o = (bandF (posF o) es, cutF (posF o) es, totalF (posF o) es, 0)) := by show _ = _; unfold MeasR; rw [if_neg (by rw [hbad]; simp)]
  have HBAD := Lib.hid hbad
  have hrord := rev_ord hord
  have hbadr := meas_ok hk H30.out HG.out hrord
  have HMR : Hid (MeasR k es o.reverse = (bandF (posF o) es, cutF (posF o) es, totalF (posF o) es, 0)) := by
    show _ = _
    unfold MeasR
    rw [if_neg (by rw [hbadr]; simp), band_rev hord HG.out, cut_rev hord HG.out, total_rev hord HG.out]
  have HBADR := Lib.hid hbadr
  have HOLR := Lib.hid hrord.len
  have hk1 : k ≤ co := hkc.1
  clear hord har hB2 hbad HO hrord hbadr
  go_wp2_with fail
  refine (Reverse_calls (some ⟨go, 0, none⟩) k co o _ HOL.out.symm HAR.out hkc.1 hkc.2).mono ?_
  rintro e w2b ⟨hB2b, h⟩
  have hok : 1 ≤ o.length ∧ o.length ≤ 8 ∧ IsOrd o.length o := by rw [HOL.out]; exact ⟨hk.1, hk.2, HORD.out⟩
  obtain ⟨_, _, _, gr, cr, rfl, harr⟩ := h.resolve_right fun h => h.1 hok
  rw [HOL.out]
  have hkr := harr.bd
  rw [HOLR.out] at hkr
  have HRV := Lib.hid harr.rd
  have HE := Lib.hid (HE.out.below hB2b)
  have HAR := Lib.hid (HAR.out.below hB2b)
  have HW := Lib.hid (HW.out.trans (hB2b.mono HW.out.size))
  clear harr hB2b hok
  go_wp2_with fail
  refine (measure_calls k (some ⟨g, 0, none⟩) L cg es (some ⟨go, 0, none⟩) k co o _ HL.out HE.out hbd.1 hbd.2 HOL.out.symm HAR.out hkc.1 hkc.2).mono ?_
  rintro e w3 ⟨rfl, hB3⟩
  rw [HM.out]
  have HE := Lib.hid (HE.out.below hB3)
  have HAR := Lib.hid (HAR.out.below hB3)
  have HRV := Lib.hid (HRV.out.below hB3)
  have HW := Lib.hid (HW.out.trans (hB3.mono HW.out.size))
  clear hB3
  go_wp2_with fail
  refine (measure_calls k (some ⟨g, 0, none⟩) L cg es (some ⟨gr, 0, none⟩) k cr o.reverse _ HL.out HE.out hbd.1 hbd.2 HOLR.out.symm HRV.out hkr.1 hkr.2).mono ?_
  rintro e w3b ⟨rfl, hB3⟩
  rw [HMR.out]
  have HE := Lib.hid (HE.out.below hB3)
  have HAR := Lib.hid (HAR.out.below hB3)
  have HRV := Lib.hid (HRV.out.below hB3)
  have HW := Lib.hid (HW.out.trans (hB3.mono HW.out.size))
  clear hB3
  go_wp2_with fail
  refine (Cuts_calls k (some ⟨g, 0, none⟩) L cg es (some ⟨go, 0, none⟩) k co o _ HL.out HE.out hbd.1 hbd.2 HOL.out.symm HAR.out hkc.1 hkc.2).mono ?_
  rintro e w4 ⟨hB4, h4⟩
  rw [if_neg (by rw [HBAD.out]; simp), HOL.out] at h4
  obtain ⟨g4, rfl, har4⟩ := h4
  have HW := Lib.hid (HW.out.trans (hB4.mono HW.out.size))
  have HC4 := Lib.hid har4.rd
  have HRV := Lib.hid (HRV.out.below hB4)
  have HE := Lib.hid (HE.out.below hB4)
  clear hB4 har4
  go_wp2_with fail
  refine (Cuts_calls k (some ⟨g, 0, none⟩) L cg es (some ⟨gr, 0, none⟩) k cr o.reverse _ HL.out HE.out hbd.1 hbd.2 HOLR.out.symm HRV.out hkr.1 hkr.2).mono ?_
  rintro e w5 ⟨hB5, h5⟩
  rw [if_neg (by rw [HBADR.out]; simp), HOLR.out] at h5
  obtain ⟨g5, rfl, har5⟩ := h5
  have HW := Lib.hid (HW.out.trans (hB5.mono HW.out.size))
  have HC4 := Lib.hid (HC4.out.below hB5)
  rw [cuts_rev HORD.out HG.out] at har5
  have HC5 := Lib.hid har5.rd
  have hK : k - 1 = (cutsF (posF o) es).length := by rw [cutsF_len, posF_len, HOL.out]
  obtain ⟨xs, hxs⟩ : ∃ xs, xs = cutsF (posF o) es := ⟨_, rfl⟩
  rw [← hxs] at HC4 HC5 hK
  obtain ⟨K, hKK⟩ : ∃ K, K = k - 1 := ⟨_, rfl⟩
  rw [← hKK] at hK ⊢
  have HK := Lib.hid hK
  have hK8 : K ≤ 7 := by omega
  have HKR : Hid (K = xs.reverse.length) := by show _ = _; rw [List.length_reverse]; exact hK
  clear hB5 har5 hxs hK hKK HORD
  go_wp2_with fail
  refine (Turned_calls (some ⟨g5, 0, none⟩) K K xs.reverse _ HKR.out HC5.out (Nat.le_refl _) (by omega) (by omega)).mono ?_
  rintro e w6 ⟨g6, c6, rfl, har6, hB6⟩
  rw [← HKR.out]
  rw [List.reverse_reverse] at har6
  have hb6 := har6.bd
  have HC6 := Lib.hid har6.rd
  have HC4 := Lib.hid (HC4.out.below hB6)
  have HW := Lib.hid (HW.out.trans (hB6.mono HW.out.size))
  rw [← HK.out] at hb6
  clear har6 hB6
  go_wp2_with fail
  refine (same_true (xs := xs) HK.out HC4.out (Nat.le_refl _) (by omega) HK.out HC6.out hb6.1 hb6.2).mono ?_
  rintro e w7 ⟨rfl, hB7⟩
  have HW := Lib.hid (HW.out.trans (hB7.mono HW.out.size))
  clear hB7
  go_wp2_with fail
  refine (lives_calls _).mono ?_
  rintro e w8 ⟨rfl, hB8⟩
  have HW := Lib.hid (HW.out.trans (hB8.mono HW.out.size))
  clear hB8
  go_wp2_with fail
  go_ret
  exact ⟨rfl, HW.out⟩
end Go.Proofs.Ytlidnhmagleehaa
