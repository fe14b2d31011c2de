/- What is proved: the law of renaming (G8). No condition beyond those in each statement. -/
import Derived.Test.YtlidnhmagleehaaV
namespace Go.Proofs.Ytlidnhmagleehaa
open Go.RowKit

theorem renE_len (o : List Int) (es : List (Int × Int)) : (renE o es).length = es.length := by simp [renE]
theorem renE_step (o : List Int) (es : List (Int × Int)) (i : Nat) (hi : i < es.length) :
    (renE o es).take (es.length - (i + 1)) ++ [(o.getD es[i].2.toNat 0, o.getD es[i].1.toNat 0)] = (renE o es).take (es.length - i) := by
  have e : es.length - i = (es.length - (i + 1)) + 1 := by omega
  have h1 : es.length - (i + 1) < (renE o es).length := by rw [renE_len]; omega
  have h2 : es.length - 1 - (es.length - (i + 1)) = i := by omega
  rw [e, List.take_succ_eq_append_getElem h1]
  simp [renE, h2]
def OtherI (w1 : World) (o : List Int) (es : List (Int × Int)) (L : Nat) (s q : Value) (wr : World) : Prop :=
  ∃ (i : Nat) (z : Int) (g c : Nat), q = .int .i64 z ∧ z = (i : Int) - 1 ∧ i ≤ L ∧ s = .slice (some ⟨g, 0, none⟩) (L - i : Nat) c ∧ Hid (OwE wr w1.heap.size g c ((renE o es).take (L - i))) ∧ Hid (Below w1.heap.size w1 wr)
theorem keep7 {B : Nat} {w w' : World} {p1 p2 p3 p4 : Addr} {v1 v2 v3 v4 : Value} (h1 : w.cell? p1 = some v1) (h2 : w.cell? p2 = some v2) (h3 : w.cell? p3 = some v3) (h4 : w.cell? p4 = some v4) (l1 : p1.block < B) (l2 : p2.block < B) (l3 : p3.block < B) (l4 : p4.block < B) (hb : Below B w w') :
    w'.cell? p1 = some v1 ∧ w'.cell? p2 = some v2 ∧ w'.cell? p3 = some v3 ∧ w'.cell? p4 = some v4 ∧ Below B w w' :=
  ⟨(hb.cell l1).trans h1, (hb.cell l2).trans h2, (hb.cell l3).trans h3, (hb.cell l4).trans h4, hb⟩
theorem owe_oneN {w : World} {base g b c cb n : Nat} {es : List (Int × Int)} {x y : Int} (hn : n = es.length) (h : OwE w base g c es) (hF : NB w b x y) (hb : base ≤ w.heap.size) (hl : es.length ≤ 999) :
    ∃ v' w', (Builtin.append_ #[22, 22] 22 #[.slice (some ⟨g, 0, none⟩) n c, .slice (some ⟨b, 0, none⟩) 1 cb]).run Try.prog w = .ok v' w' ∧ AppR w base g (es ++ [(x, y)]) v' w' := hn ▸ owe_one h hF hb hl
theorem ord_cell {W w : World} {base go co k : Nat} {o : List Int} (hord : IsOrd k o) (h : Arr W base go co o) (hB : Below W.heap.size W w) {v : Int} (hv : 0 ≤ v ∧ v < k) :
    ∃ b : Nat, v = b ∧ b < k ∧ w.cell? ⟨go, b, none⟩ = some (.int .i64 (o.getD v.toNat 0)) := by
  obtain ⟨b, rfl⟩ : ∃ b : Nat, v = b := ⟨v.toNat, by omega⟩
  have hb : b < o.length := by rw [hord.len]; omega
  refine ⟨b, rfl, by omega, ?_⟩
  rw [hB.cell (p := ⟨go, b, none⟩) h.lt.2, h.at b hb, Int.toNat_natCast, getD_lt 0 () hb]
set_option maxHeartbeats 8000000 in
theorem renamedlaw_calls (x : Int) (A : Option Addr) (m c : Nat) (ps : List (Int × Int)) (B : Option Addr) (m2 c2 : Nat) (bs : List Int) (w : World) (hx : 0 ≤ x ∧ x ≤ 255) (hm : m = ps.length) (hA : RdP w A ps) (hl : m ≤ c) (hc : c ≤ 9223372036854775807) (hps : ∀ p ∈ ps, (0 ≤ p.1 ∧ p.1 ≤ 255) ∧ (0 ≤ p.2 ∧ p.2 ≤ 255))
    (hm2 : m2 = bs.length) (hB : RdU w B bs) (hl2 : m2 ≤ c2) (hc2 : c2 ≤ 9223372036854775807) (hbs : ∀ b ∈ bs, 0 ≤ b ∧ b ≤ 255) :
    Calls Try.prog 9 #[.int .u8 x, .slice A m c, .slice B m2 c2] w fun e w' => e = .returned (.bool true) ∧ Below w.heap.size w w' := by
  have CM := Lib.hid (made_calls x A m c ps 7 w hx (by omega) hm hA hl hc hps)
  have CO := Lib.hid (fun (n : Nat) (hn : n ≤ 20) (W : World) (h : RdU W B bs) => order_calls n hn B m2 c2 bs W hm2 h hl2 hc2 hbs)
  have HBU := Lib.hid hB
  clear hm hA hps hm2 hB hbs
  go_enter Try.func9, Try.ntmps9
  go_wp2_with fail
  refine CM.out.mono ?_
  rintro e w1 ⟨k, es, g, cg, hk, h20, hg, rfl, ho, hB⟩
  have HBU := Lib.hid (HBU.out.below hB)
  have HO := Lib.hid ho
  have HG := Lib.hid hg
  have HW := Lib.hid hB
  have hbd := ho.bd
  obtain ⟨L, hL⟩ : ∃ L, L = es.length := ⟨_, rfl⟩
  rw [← hL] at hbd h20 ⊢
  have HL := Lib.hid hL
  clear ho hB hg hL
  go_wp2_with fail
  refine (CO.out k (by omega) _ HBU.out).mono ?_
  rintro e w2 ⟨o, go, co, hord, rfl, har, hB2⟩
  have HE := Lib.hid (HO.out.rd.below hB2)
  have HORD := Lib.hid hord
  have HAR := Lib.hid har
  have HW := Lib.hid (HW.out.trans (hB2.mono HW.out.size))
  have hkc := har.bd
  rw [hord.len] at hkc
  clear hord har hB2
  have wl : IntKind.i64.wrap ((L : Int) - 1) = (L : Int) - 1 := IntWalk.i64_in _ (by omega)
  go_wp2_with fail
  go_loopw [10, 11] (OtherI w2 o es L) (fun _ q _ => (intOf q + 1).toNat)
  case atStart => exact ⟨L, (L : Int) - 1, w2.heap.size, 0, rfl, rfl, Nat.le_refl _, by simp, Lib.hid (by simpa using owe_new w2 _ (Nat.le_refl _)), Lib.hid ((Below.refl _ _).alloc (Nat.le_refl _) _)⟩
  case round =>
    obtain ⟨i', z, g3, c3, rfl, hz, hiL, rfl, HO3, HB3⟩ := hrel
    obtain ⟨W3, hW3⟩ : ∃ q, q = wr := ⟨_, rfl⟩
    rw [← hW3] at HO3 HB3 ⊢
    clear hW3
    by_cases h0 : i' = 0
    · subst h0
      have hz2 : z = -1 := by omega
      clear hz
      subst hz2
      rw [Nat.sub_zero] at HO3 ⊢
      have HG := HG.out
      have HORD := HORD.out
      have hkk : 1 ≤ k ∧ k ≤ 8 := by omega
      obtain ⟨b1, p1, l1⟩ := least_ex (costB es) k
      obtain ⟨b2, p2, l2⟩ := least_ex (costC es) k
      obtain ⟨b3, p3, l3⟩ := least_ex (costS es) k
      obtain ⟨d1, y1, m1⟩ := least_ex (costB (renE o es)) k
      obtain ⟨d2, y2, m2⟩ := least_ex (costC (renE o es)) k
      obtain ⟨d3, y3, m3⟩ := least_ex (costS (renE o es)) k
      have f1 : b1 = d1 := least_ren HORD (fun q hq => band_ren HORD hq HG) l1 m1
      have f2 : b2 = d2 := least_ren HORD (fun q hq => cut_ren HORD hq HG) l2 m2
      have f3 : b3 = d3 := least_ren HORD (fun q hq => total_ren HORD hq HG) l3 m3
      subst f1 f2 f3
      have hL := HL.out
      have hful : (renE o es).take L = renE o es := List.take_of_length_le (by rw [renE_len]; omega)
      rw [hful] at HO3
      have hbd3 := HO3.out.bd
      rw [renE_len, ← hL] at hbd3
      have HE := Lib.hid (HE.out.below (HB3.out.mono (Nat.le_refl _)))
      have HF := Lib.hid HO3.out.rd
      have HW := Lib.hid (HW.out.trans (HB3.out.mono HW.out.size))
      have CL := Lib.hid (fun (W : World) (h : RdE W (some ⟨g, 0, none⟩) es) => least_calls k hkk (some ⟨g, 0, none⟩) L cg es W hL (by omega) HG h hbd.1 hbd.2 l1 l2 l3)
      have CN := Lib.hid (fun (W : World) (h : RdE W (some ⟨g3, 0, none⟩) (renE o es)) => least_calls k hkk (some ⟨g3, 0, none⟩) L c3 (renE o es) W (by rw [renE_len]; exact hL) (by rw [renE_len]; omega) (renE_ok HORD HG) h hbd3.1 hbd3.2 m1 m2 m3)
      clear l1 l2 l3 m1 m2 m3 HO3 HB3 hful HG HORD hL hiL HO HAR
      go_wp2_with fail
      refine (CL.out _ HE.out).mono ?_
      rintro e w4 ⟨g4, rfl, hrd4, hB4⟩
      have HF := Lib.hid (HF.out.below hB4)
      have HW := Lib.hid (HW.out.trans (hB4.mono HW.out.size))
      have HR4 := Lib.hid hrd4
      clear hB4 hrd4
      go_wp2_with fail
      refine (CN.out _ HF.out).mono ?_
      rintro e w5 ⟨g5, rfl, hrd5, hB5⟩
      have HW := Lib.hid (HW.out.trans (hB5.mono HW.out.size))
      have HR4 := Lib.hid (HR4.out.below hB5)
      have HR5 := Lib.hid hrd5
      clear hrd5 hB5
      go_wp2_with fail
      refine (same_true (xs := [b1, b2, b3]) (c := 3) (d := 3) rfl HR4.out (Nat.le_refl _) (by omega) rfl HR5.out (Nat.le_refl _) (by omega)).mono ?_
      rintro e w6 ⟨rfl, hB6⟩
      have HW := Lib.hid (HW.out.trans (hB6.mono HW.out.size))
      clear hB6
      go_wp2_with fail
      refine (lives_calls _).mono ?_
      rintro e w7 ⟨rfl, hB7⟩
      have HW := Lib.hid (HW.out.trans (hB7.mono HW.out.size))
      clear hB7
      go_wp2_with fail
      go_ret
      exact ⟨rfl, HW.out⟩
    · obtain ⟨i, rfl⟩ : ∃ i, i' = i + 1 := ⟨i' - 1, by omega⟩
      have hz2 : z = (i : Int) := by omega
      clear hz h0
      subst hz2
      have hil : i < es.length := by have := HL.out; omega
      obtain ⟨b, o', e, hb, hc1, hc2⟩ := HE.out.at i hil
      cases e
      rw [Nat.zero_add] at hc1 hc2
      have d1 := (HB3.out.cell (p := ⟨g, i * 2, none⟩) hb).trans hc1
      have d2 := (HB3.out.cell (p := ⟨g, i * 2 + 1, none⟩) hb).trans hc2
      obtain ⟨q1, q2, _⟩ := HG.out es[i] (List.getElem_mem hil)
      have hstep := renE_step o es i hil
      have hgo := HAR.out.lt.2
      obtain ⟨a, ha, hak, d3⟩ := ord_cell HORD.out HAR.out HB3.out q1
      obtain ⟨b, hb2, hbk, d4⟩ := ord_cell HORD.out HAR.out HB3.out q2
      obtain ⟨X, hX⟩ : ∃ X, X = o.getD es[i].1.toNat 0 := ⟨_, rfl⟩
      obtain ⟨Y, hY⟩ : ∃ Y, Y = o.getD es[i].2.toNat 0 := ⟨_, rfl⟩
      rw [← hX] at d3 hstep
      rw [← hY] at d4 hstep
      rw [ha] at d1
      rw [hb2] at d2
      have hlen : L - (i + 1) = ((renE o es).take (L - (i + 1))).length := by rw [List.length_take, renE_len]; have := HL.out; omega
      rw [← HL.out] at hstep
      obtain ⟨E', hE'⟩ : ∃ E', E' = (renE o es).take (L - (i + 1)) := ⟨_, rfl⟩
      rw [← hE'] at HO3 hlen hstep
      have HST := Lib.hid hstep
      have hlen2 : (E' ++ [(Y, X)]).length = L - i := by rw [List.length_append, ← hlen]; simp; omega
      have HL2 := Lib.hid hlen2
      have HL1 := Lib.hid hlen
      have z1 : (0 : Int) ≤ (i : Int) := by omega
      have z2 : (i : Int) < (L : Int) := by omega
      have z3 : (a : Int) < (k : Int) := by omega
      have z4 : (b : Int) < (k : Int) := by omega
      have z5 : w2.heap.size ≤ W3.heap.size := HB3.out.size
      have z6 : L ≤ 20 := by omega
      have wi : IntKind.i64.wrap ((i : Int) - 1) = (i : Int) - 1 := IntWalk.i64_in _ (by omega)
      have hE9 : E'.length ≤ 999 := by omega
      clear hc1 hc2 q1 q2 hX hY ha hb2 hstep hlen hlen2 hE'
      go_wp2_with fail
      go_region_held3 (fun w' => w'.cell? ⟨g, i * 2, none⟩ = some (.int .i64 a) ∧ w'.cell? ⟨g, i * 2 + 1, none⟩ = some (.int .i64 b) ∧ w'.cell? ⟨go, a, none⟩ = some (.int .i64 X) ∧ w'.cell? ⟨go, b, none⟩ = some (.int .i64 Y) ∧ Below w2.heap.size W3 w')
        ((refine keep7 d1 d2 d3 d4 hb hb hgo hgo ?_; (repeat (first | with_reducible exact Below.refl _ _ | with_reducible refine Below.drew ?_ | with_reducible refine Below.alloc ?_ (by first | (simp; done) | (simp; omega) | omega) _ | with_reducible refine Below.trans ?_ hb2))))
        ((first
          | (refine step_app (by rfl) (.tmp 33) (.tmp 51) 22 22 (by rfl) (by rfl) _ _ (by rfl) (by rfl) (owe_oneN (base := w2.heap.size) (x := Y) (y := X) HL1.out (by repeat (first | with_reducible exact HO3.out | with_reducible refine OwE.drew ?_ | with_reducible refine OwE.alloc ?_ _)) (by repeat (first | with_reducible refine nb_newE _ _ _ _ (by first | rfl | simp) | with_reducible refine NB.drew ?_ | with_reducible refine NB.alloc ?_ _)) (by first | (simp; done) | (simp; omega) | omega) hE9) ?_
             rintro v2 x2 ⟨g2, c2', rfl, ho2, hb2, hn2⟩
             have hs2 : w2.heap.size ≤ x2.heap.size := by have := hb2.size; (try simp at this); omega)))
      all_goals
        have hB9 := Lib.hid (show Below w2.heap.size W3 x2 by (repeat (first | with_reducible exact Below.refl _ _ | with_reducible refine Below.drew ?_ | with_reducible refine Below.alloc ?_ (by first | (simp; done) | (simp; omega) | omega) _ | with_reducible refine Below.trans ?_ hb2)))
        have hA4 := Lib.hid ho2
        have hel : E'.length + 1 = L - i := by have := HL1.out; omega
        clear ho2 hb2 hn2
        go_wp2_with fail
        go_roundw
        case rel => exact ⟨i, (i : Int) - 1, g2, c2', by go_num, rfl, by omega, by rw [hel], Lib.hid (HST.out ▸ hA4.out), Lib.hid (HB3.out.trans hB9.out)⟩
        case measure => simp [intOf]
end Go.Proofs.Ytlidnhmagleehaa
