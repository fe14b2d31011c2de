/- What is proved: calls, alike; several towers. No condition beyond those in each statement. -/
import Derived.Test.YtahjgdikjaakbaaZL
namespace Go.Proofs.Ytahjgdikjaakbaa
open Go.RowKit

set_option maxRecDepth 100000 in
set_option maxHeartbeats 4000000 in
theorem callsV_calls {w : World} {A B : Option Addr} {L c d : Nat} {xs : List Cal} (hL : L = xs.length) (hA : RdC w A xs) (hB : RdC w B xs) (hc : L ≤ c ∧ c ≤ 9223372036854775807) :
    Calls Try.prog 47 #[.slice A L c, .slice B L d] w fun e w' => e = .returned (.bool true) ∧ Below w.heap.size w w' := by
  have HA := Lib.hid hA
  have HB := Lib.hid hB
  have HL := Lib.hid hL
  have hLc : (L : Int) ≤ 9223372036854775807 := by omega
  clear hA hB hL hc
  go_enter Try.func47, Try.ntmps47
  go_wp2_with fail
  go_loopw [5] (fun v wr => ∃ i : Nat, v = .int .i64 i ∧ i ≤ L ∧ Hid (Below w.heap.size w wr)) (fun v _ => L - (intOf v).toNat)
  case atStart => exact ⟨0, rfl, Nat.zero_le _, Below.refl _ _⟩
  case round =>
    obtain ⟨i, rfl, hi, HW⟩ := hrel
    by_cases hlt : i < L
    · obtain ⟨b, o, rfl, hb, c1, c2, c3, c4⟩ := HA.out.at i (by rw [← HL.out]; exact hlt)
      obtain ⟨b2, o2, rfl, hb2, k1, k2, k3, k4⟩ := HB.out.at i (by rw [← HL.out]; exact hlt)
      have d1 := (HW.out.cell (p := ⟨b, o + i * 4, none⟩) hb).trans c1
      have d2 := (HW.out.cell (p := ⟨b, o + i * 4 + 1, none⟩) hb).trans c2
      have d3 := (HW.out.cell (p := ⟨b, o + i * 4 + 2, none⟩) hb).trans c3
      have d4 := (HW.out.cell (p := ⟨b, o + i * 4 + 3, none⟩) hb).trans c4
      have e1 := (HW.out.cell (p := ⟨b2, o2 + i * 4, none⟩) hb2).trans k1
      have e2 := (HW.out.cell (p := ⟨b2, o2 + i * 4 + 1, none⟩) hb2).trans k2
      have e3 := (HW.out.cell (p := ⟨b2, o2 + i * 4 + 2, none⟩) hb2).trans k3
      have e4 := (HW.out.cell (p := ⟨b2, o2 + i * 4 + 3, none⟩) hb2).trans k4
      obtain ⟨x, hx⟩ : ∃ x, x = xs[i]'(by rw [← HL.out]; exact hlt) := ⟨_, rfl⟩
      rw [← hx] at d1 d2 d3 d4 e1 e2 e3 e4
      obtain ⟨xa, xb, xm⟩ := x
      obtain ⟨tb, htb⟩ : ∃ tb, tb = xm.isTok := ⟨_, rfl⟩
      obtain ⟨no, hno⟩ : ∃ no, no = xm.num := ⟨_, rfl⟩
      simp only at d1 d2 d3 d4 e1 e2 e3 e4
      rw [← htb] at d3 e3
      rw [← hno] at d4 e4
      have z1 : (0 : Int) ≤ (i : Int) ∧ (i : Int) < L := by omega
      clear c1 c2 c3 c4 k1 k2 k3 k4 hx htb hno hb hb2
      go_wp2_with fail
      go_quiet (fail)
      go_wp2_with fail
      go_roundw
      case rel => exact ⟨i + 1, by go_num, by omega, below_drewN HW.out _⟩
      case measure => simp [intOf]; omega
    · have hin : i = L := by omega
      subst hin
      go_wp2_with fail
      go_ret
      exact ⟨rfl, HW.out⟩
theorem callsV {w : World} {u v : Value} {xs : List Cal} {b b2 : Nat} (h : OwC w b u xs) (k : OwC w b2 v xs) : Calls Try.prog 47 #[u, v] w fun e w' => e = .returned (.bool true) ∧ Below w.heap.size w w' := by
  obtain ⟨A, c, rfl, h1, h2, _, h3, _⟩ := h.rd
  obtain ⟨B, d, rfl, _, _, _, k3, _⟩ := k.rd
  exact callsV_calls rfl h3 k3 ⟨h1, h2⟩
/-- The two towers, behind something that only makes memory. -/
def Two (w0 : World) (T U : Nat) (t : TS) (X Y : Nat → Prop) (w : World) : Prop := Tw w T t X ∧ Tw w U t Y ∧ Below w0.heap.size w0 w
theorem Two.below {w0 w w' : World} {T U : Nat} {t : TS} {X Y : Nat → Prop} (h : Two w0 T U t X Y w) (hb : Below w.heap.size w w') : Two w0 T U t X Y w' := ⟨h.1.below hb, h.2.1.below hb, h.2.2.trans (hb.mono h.2.2.size)⟩
set_option maxRecDepth 100000 in
set_option maxHeartbeats 8000000 in
theorem alike_calls {w : World} {T U n k : Nat} {t : TS} {X Y : Nat → Prop} (h : Tw w T t X) (h2 : Tw w U t Y) (O : Ok t k) (hk : k ≤ 10000) (hn : t.n = n) :
    Calls Try.prog 39 #[.pointer (some ⟨T, 0, none⟩), .pointer (some ⟨U, 0, none⟩), .int .i64 n] w fun e w' => e = .returned (.bool true) ∧ Below w.heap.size w w' := by
  have HT : Hid (Two w T U t X Y w) := ⟨h, h2, Below.refl _ _⟩
  have HO := Lib.hid O
  have HN := Lib.hid hn
  have hn6 := O.1.hn
  rw [hn] at hn6
  have CKT : Hid (∀ w1 (i : Nat), Two w T U t X Y w1 → Calls Try.prog 26 #[.pointer (some ⟨T, 0, none⟩), .int .i64 i] w1 fun e w' => ∃ v, e = .returned v ∧ Sl w' v (t.kno i) ∧ Two w T U t X Y w') := fun w1 i h1 => (tw_known h1.1 i).mono fun _ _ ⟨v, he, ho, hb⟩ => ⟨v, he, ho.sl, h1.below hb⟩
  have CKU : Hid (∀ w1 (i : Nat) v0, Two w T U t X Y w1 → Sl w1 v0 (t.kno i) → Calls Try.prog 26 #[.pointer (some ⟨U, 0, none⟩), .int .i64 i] w1 fun e w' => ∃ v, e = .returned v ∧ Sl w' v (t.kno i) ∧ Sl w' v0 (t.kno i) ∧ Two w T U t X Y w') := fun w1 i v0 h1 hs => (tw_known h1.2.1 i).mono fun _ _ ⟨v, he, ho, hb⟩ => ⟨v, he, ho.sl, hs.below hb, h1.below hb⟩
  have CSM : Hid (∀ w1 u v (xs : List Int), Sl w1 u xs → Sl w1 v xs → Two w T U t X Y w1 → Calls Try.prog 40 #[u, v] w1 fun e w' => e = .returned (.bool true) ∧ Two w T U t X Y w') := fun w1 u v xs hu hv h1 => by
    have := sameV hu hv
    rw [decide_eq_true rfl] at this
    exact this.mono fun _ _ ⟨he, hb⟩ => ⟨he, h1.below hb⟩
  clear h h2 O hn
  go_enter Try.func39, Try.ntmps39
  go_wp2_with fail
  go_loopw [7] (fun v wr => ∃ i : Nat, v = .int .i64 i ∧ i ≤ n ∧ Hid (Two w T U t X Y wr)) (fun v _ => n - (intOf v).toNat)
  case atStart => exact ⟨0, rfl, Nat.zero_le _, HT.out⟩
  case round =>
    obtain ⟨i, rfl, hi, HW⟩ := hrel
    by_cases hlt : i < n
    · go_wp2_with fail
      refine (CKT.out _ i HW.out).mono ?_
      rintro e w1 ⟨v1, rfl, hs1, ht1⟩
      have H1 := Lib.hid (And.intro hs1 ht1)
      clear hs1 ht1
      go_wp2_with fail
      refine (CKU.out _ i v1 H1.out.2 H1.out.1).mono ?_
      rintro e w2 ⟨v2, rfl, hs2, hs3, ht2⟩
      have H2 := Lib.hid (And.intro hs2 (And.intro hs3 ht2))
      clear hs2 hs3 ht2 H1
      go_wp2_with fail
      refine (CSM.out _ v1 v2 _ H2.out.2.1 H2.out.1 H2.out.2.2).mono ?_
      rintro e w3 ⟨rfl, ht3⟩
      have H3 := Lib.hid ht3
      clear ht3 H2
      go_wp2_with fail
      go_roundw
      case rel => exact ⟨i + 1, by go_num, by omega, H3.out⟩
      case measure => simp [intOf]; omega
    · have hin : i = n := by omega
      subst hin
      have DI : Hid (∀ w1 P Z, Tw w1 P t Z → Two w T U t X Y w1 → Calls Try.prog 18 #[.pointer (some ⟨P, 0, none⟩)] w1 fun e w' => e = .returned (.int .i64 t.insI) ∧ Two w T U t X Y w') := fun w1 P Z hp h1 => (tw_inside hp).mono fun _ _ ⟨he, hb⟩ => ⟨he, h1.below hb⟩
      have DH : Hid (∀ w1 P Z, Tw w1 P t Z → Calls Try.prog 17 #[.pointer (some ⟨P, 0, none⟩)] w1 fun e w' => e = .returned (.int .i64 t.holder) ∧ w1 = w') := fun w1 P Z hp => tw_holder hp
      have DS : Hid (∀ w1 P Z, Tw w1 P t Z → Calls Try.prog 22 #[.pointer (some ⟨P, 0, none⟩)] w1 fun e w' => e = .returned (.int .i64 t.sent) ∧ w1 = w') := fun w1 P Z hp => tw_sent hp
      have DL : Hid (∀ (F : Nat) (xs : List Int), ((F = 21 ∧ xs = t.wai) ∨ (F = 24 ∧ xs = t.queue) ∨ (F = 25 ∧ xs = t.served)) → ∀ w1 P Z, Tw w1 P t Z → Two w T U t X Y w1 → Calls Try.prog F #[.pointer (some ⟨P, 0, none⟩)] w1 fun e w' => ∃ v, e = .returned v ∧ Sl w' v xs ∧ Two w T U t X Y w' ∧ Below w1.heap.size w1 w') := by
        rintro F xs (⟨rfl, rfl⟩ | ⟨rfl, rfl⟩ | ⟨rfl, rfl⟩) w1 P Z hp h1
        · exact (tw_waiting hp).mono fun _ _ ⟨v, he, ho, hb⟩ => ⟨v, he, ho.sl, h1.below hb, hb⟩
        · exact (tw_queue hp HO.out.1).mono fun _ _ ⟨v, he, ho, hb⟩ => ⟨v, he, ho.sl, h1.below hb, hb⟩
        · exact (tw_served hp HO.out.1).mono fun _ _ ⟨v, he, ho, hb⟩ => ⟨v, he, ho.sl, h1.below hb, hb⟩
      have DF : Hid (∀ w1 P Z, Tw w1 P t Z → Two w T U t X Y w1 → Calls Try.prog 16 #[.pointer (some ⟨P, 0, none⟩)] w1 fun e w' => ∃ v, e = .returned v ∧ OwC w' w1.heap.size v t.cals ∧ Two w T U t X Y w' ∧ Below w1.heap.size w1 w') := fun w1 P Z hp h1 => (tw_flight hp HO.out.2 hk).mono fun _ _ ⟨v, he, ho, hb⟩ => ⟨v, he, ho, h1.below hb, hb⟩
      obtain ⟨ii, hii⟩ : ∃ ii, ii = t.insI := ⟨_, rfl⟩
      rw [← hii] at DI
      obtain ⟨h, hh⟩ : ∃ h, h = t.holder := ⟨_, rfl⟩
      rw [← hh] at DH
      obtain ⟨sn, hsn⟩ : ∃ sn, sn = t.sent := ⟨_, rfl⟩
      rw [← hsn] at DS
      clear hii hh hsn CKT CKU
      go_wp2_with fail
      refine (DI.out _ _ _ HW.out.1 HW.out).mono ?_
      rintro e w1 ⟨rfl, ht1⟩
      have H1 := Lib.hid ht1
      clear ht1
      go_wp2_with fail
      refine (DI.out _ _ _ H1.out.2.1 H1.out).mono ?_
      rintro e w2 ⟨rfl, ht2⟩
      have H2 := Lib.hid ht2
      clear ht2 H1 DI
      go_wp2_with fail
      refine (DH.out _ _ _ H2.out.1).mono ?_
      rintro e w3 ⟨rfl, rfl⟩
      go_wp2_with fail
      refine (DH.out _ _ _ H2.out.2.1).mono ?_
      rintro e w3 ⟨rfl, rfl⟩
      have HC := H2
      clear DH H2
      go_wp2_with fail
      refine (DL.out 21 t.wai (.inl ⟨rfl, rfl⟩) _ _ _ HC.out.1 HC.out).mono ?_
      rintro e w4 ⟨v4, rfl, hs4, ht4, _⟩
      have H4 := Lib.hid (And.intro hs4 ht4)
      clear hs4 ht4 HC
      go_wp2_with fail
      refine (DL.out 21 t.wai (.inl ⟨rfl, rfl⟩) _ _ _ H4.out.2.2.1 H4.out.2).mono ?_
      rintro e w5 ⟨v5, rfl, hs5, ht5, hb5⟩
      have CC := Lib.hid (CSM.out _ v4 v5 _ (H4.out.1.below hb5) hs5 ht5)
      clear hs5 ht5 hb5 H4
      go_wp2_with fail
      refine CC.out.mono ?_
      rintro e w6 ⟨rfl, ht6⟩
      have HC := Lib.hid ht6
      clear ht6 CC
      go_wp2_with fail
      refine (DL.out 24 t.queue (.inr (.inl ⟨rfl, rfl⟩)) _ _ _ HC.out.1 HC.out).mono ?_
      rintro e w4 ⟨v4, rfl, hs4, ht4, _⟩
      have H4 := Lib.hid (And.intro hs4 ht4)
      clear hs4 ht4 HC
      go_wp2_with fail
      refine (DL.out 24 t.queue (.inr (.inl ⟨rfl, rfl⟩)) _ _ _ H4.out.2.2.1 H4.out.2).mono ?_
      rintro e w5 ⟨v5, rfl, hs5, ht5, hb5⟩
      have CC := Lib.hid (CSM.out _ v4 v5 _ (H4.out.1.below hb5) hs5 ht5)
      clear hs5 ht5 hb5 H4
      go_wp2_with fail
      refine CC.out.mono ?_
      rintro e w6 ⟨rfl, ht6⟩
      have HC := Lib.hid ht6
      clear ht6 CC
      go_wp2_with fail
      refine (DL.out 25 t.served (.inr (.inr ⟨rfl, rfl⟩)) _ _ _ HC.out.1 HC.out).mono ?_
      rintro e w4 ⟨v4, rfl, hs4, ht4, _⟩
      have H4 := Lib.hid (And.intro hs4 ht4)
      clear hs4 ht4 HC
      go_wp2_with fail
      refine (DL.out 25 t.served (.inr (.inr ⟨rfl, rfl⟩)) _ _ _ H4.out.2.2.1 H4.out.2).mono ?_
      rintro e w5 ⟨v5, rfl, hs5, ht5, hb5⟩
      have CC := Lib.hid (CSM.out _ v4 v5 _ (H4.out.1.below hb5) hs5 ht5)
      clear hs5 ht5 hb5 H4
      go_wp2_with fail
      refine CC.out.mono ?_
      rintro e w6 ⟨rfl, ht6⟩
      have HC := Lib.hid ht6
      clear ht6 CC
      go_wp2_with fail
      refine (DF.out _ _ _ HC.out.1 HC.out).mono ?_
      rintro e w4 ⟨v4, rfl, ho4, ht4, _⟩
      have H4 := Lib.hid (And.intro ho4 ht4)
      clear ho4 ht4 HC
      go_wp2_with fail
      refine (DF.out _ _ _ H4.out.2.2.1 H4.out.2).mono ?_
      rintro e w5 ⟨v5, rfl, ho5, ht5, hb5⟩
      have CC := Lib.hid (callsV (H4.out.1.below hb5) ho5)
      have H5 := Lib.hid ht5
      clear ho5 ht5 hb5 H4 DF
      go_wp2_with fail
      refine CC.out.mono ?_
      rintro e w6 ⟨rfl, hb6⟩
      have H6 := Lib.hid (H5.out.below hb6)
      clear hb6 CC H5
      go_wp2_with fail
      refine (DS.out _ _ _ H6.out.1).mono ?_
      rintro e w7 ⟨rfl, rfl⟩
      go_wp2_with fail
      refine (DS.out _ _ _ H6.out.2.1).mono ?_
      rintro e w7 ⟨rfl, rfl⟩
      go_wp2_with fail
      go_ret
      exact ⟨rfl, H6.out.2.2⟩
end Go.Proofs.Ytahjgdikjaakbaa
