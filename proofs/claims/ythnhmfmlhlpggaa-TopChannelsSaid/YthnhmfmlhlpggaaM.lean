/- What is proved: find. No condition beyond those in each statement. -/
import Derived.Test.YthnhmfmlhlpggaaL
namespace Go.Proofs.Ythnhmfmlhlpggaa
open Go.RowKit
set_option maxRecDepth 100000

theorem Arr.same {w w' : World} {base g c : Nat} {xs : List Int} (h : Arr w base g c xs) (e : w'.heap[g]? = w.heap[g]?) : Arr w' base g c xs := by
  refine ⟨h.1, ?_⟩
  rcases h.2 with h | ⟨g', cap, cur, e', hb, hg, h⟩
  · exact .inl h
  · cases e'
    exact .inr ⟨g, c, cur, rfl, hb, by rw [e]; exact hg, h⟩
theorem box_three (w : World) (v0 v1 v2 : Value) (t : Nat) : (w.alloc (.cells #[v0, v1, v2] t)).cell? ⟨w.heap.size, 0, none⟩ = some v0 ∧ (w.alloc (.cells #[v0, v1, v2] t)).cell? ⟨w.heap.size, 1, none⟩ = some v1 ∧ (w.alloc (.cells #[v0, v1, v2] t)).cell? ⟨w.heap.size, 2, none⟩ = some v2 := by
  refine ⟨?_, ?_, ?_⟩ <;> (rw [World.cell?_alloc_at _ _ _ _ rfl]; rfl)
theorem run_next : ∀ {d : List (List Int)} {o o2 : List Int} {l : List (List Int)}, Run (d ++ o :: o2 :: l) → nextR o = some o2
  | [], _, _, _, h => h.1
  | [_], _, _, _, h => run_next (d := []) h.2
  | _ :: b :: d, _, _, _, h => run_next (d := b :: d) h.2
theorem lexn_main (q : Nat) : (lexF q (idn q)).head? = some (idn q) ∧ (lexF q (idn q)).getLast? = some (idn q).reverse ∧ Run (lexF q (idn q)) := lex_main q (idn q) (idn_len q) (idn_up q)
theorem lex_step {q : Nat} {d l : List (List Int)} {o : List Int} (h : d ++ o :: l = lexF q (idn q)) : IsOrd q o ∧ nextR o = l.head? := by
  have ho : IsOrd q o := mem_lexn.1 (by rw [← h]; simp)
  refine ⟨ho, ?_⟩
  obtain ⟨_, h2, h3⟩ := lexn_main q
  rw [← h] at h2 h3
  cases l with
  | nil =>
    rw [List.getLast?_append] at h2
    have : o = (idn q).reverse := by simpa using h2
    rw [this, next_last (idn_up q)]; rfl
  | cons o2 l => exact run_next h3
theorem pick_snoc {cost : List Int → Int} {d : List (List Int)} {o : List Int} : pick cost none (d ++ [o]) = match pick cost none d with
    | none => some (cost o, o)
    | some (b, p) => if cost o < b then some (cost o, o) else some (b, p) := by
  rw [pick_append]
  cases pick cost none d with
  | none => rfl
  | some x => obtain ⟨b, p⟩ := x; simp only [pick]

def AccOk (N1 g q : Nat) (acc : Option (Int × List Int)) (s8 s9 : Value) (wr : World) : Prop :=
  match acc with
  | none => s8 = .int .i64 (-1) ∧ s9 = .slice none 0 0
  | some (b, p) => s8 = .int .i64 b ∧ 0 ≤ b ∧ ∃ g2 c2, s9 = .slice (some ⟨g2, 0, none⟩) q c2 ∧ g2 ≠ g ∧ p.length = q ∧ Arr wr N1 g2 c2 p
theorem AccOk.keep {N1 g q : Nat} {acc : Option (Int × List Int)} {s8 s9 : Value} {w w' : World} (h : AccOk N1 g q acc s8 s9 w) (hk : ∀ b, b ≠ g → b < w.heap.size → w'.heap[b]? = w.heap[b]?) : AccOk N1 g q acc s8 s9 w' := by
  cases acc with
  | none => exact h
  | some x =>
    obtain ⟨b, p⟩ := x
    obtain ⟨h1, h2, g2, c2, h3, h4, h5, h6⟩ := h
    exact ⟨h1, h2, g2, c2, h3, h4, h5, h6.same (hk g2 h4 h6.lt.2)⟩
def FillI (wa : World) (N1 g q : Nat) (s : Value) (wr : World) : Prop :=
  ∃ i : Nat, s = .int .i64 i ∧ i ≤ q ∧ Hid (Arr wr N1 g q ((List.range q).map fun j : Nat => if j < i then (j : Int) else 0)) ∧ Hid (Below N1 wa wr)
def FindI (wa : World) (N1 g q : Nat) (cost : List Int → Int) (gh : Nat) (s8 s9 s10 : Value) (wr : World) : Prop :=
  ∃ done rest : List (List Int), Hid (done ++ rest = lexF q (idn q)) ∧ gh = rest.length ∧ s10 = .bool (!rest.isEmpty) ∧ Hid (∀ o, rest.head? = some o → Arr wr N1 g q o) ∧ Hid (AccOk N1 g q (pick cost none done) s8 s9 wr) ∧ Hid (Below N1 wa wr) ∧ Hid (N1 ≤ g ∧ g < wr.heap.size)
/-- What find returns. -/
def FindR (w0 : World) (n : Int) (es : List (Int × Int)) (cost : List Int → Int) (e : Ending) (w' : World) : Prop :=
  Below w0.heap.size w0 w' ∧
    if checkF n es ≠ 0 then e = .returned (.tuple #[.int .i64 0, .slice none 0 0, .int .i64 (checkF n es)]) else
      match leastF cost n.toNat with
      | none => False
      | some (b, p) => ∃ g c, e = .returned (.tuple #[.int .i64 b, .slice (some ⟨g, 0, none⟩) p.length c, .int .i64 0]) ∧ Arr w' w0.heap.size g c p
theorem fill_zero (q : Nat) : ((List.range q).map fun j : Nat => if j < 0 then (j : Int) else 0) = List.replicate q 0 := by
  rw [List.eq_replicate_iff]; simp
theorem fill_all (q : Nat) : ((List.range q).map fun j : Nat => if j < q then (j : Int) else 0) = idn q := by
  unfold idn
  refine List.map_congr_left fun j hj => ?_
  rw [if_pos (List.mem_range.1 hj)]
theorem fill_step {q i : Nat} (_h : i < q) : ((List.range q).map fun j : Nat => if j < i then (j : Int) else 0).set i (i : Int) = (List.range q).map fun j : Nat => if j < i + 1 then (j : Int) else 0 := by
  apply List.ext_getElem
  · simp
  · intro j h1 h2
    rw [List.getElem_set, List.getElem_map, List.getElem_map, List.getElem_range]
    by_cases e : i = j
    · subst e; rw [if_pos rfl, if_pos (by omega)]
    · rw [if_neg e]
      by_cases c : j < i
      · rw [if_pos c, if_pos (by omega)]
      · rw [if_neg c, if_neg (by omega)]

set_option maxHeartbeats 8000000 in
theorem find_calls (fid : Nat) (hen : ∀ args w, (callFunc fid args).run Try.prog w = .ok (.enter fid args) w) (F : List Int → Int) (n : Int) (B : Option Addr) (ne ce : Nat) (es : List (Int × Int)) (w : World) (hne : ne = es.length) (hB : RdE w B es) (hle : ne ≤ ce) (hce : ce ≤ 9223372036854775807)
    (hcost : ∀ (q : Nat), 1 ≤ q → q ≤ 8 → es.length ≤ 30 → IsG q es → ∀ (pl : List Int) (g cg : Nat) (W : World), PosOk q pl → Rd W (some ⟨g, 0, none⟩) pl → q ≤ cg → cg ≤ 9223372036854775807 → RdE W B es →
      (0 ≤ F pl ∧ F pl ≤ 1000000) ∧ Calls Try.prog fid #[.slice (some ⟨g, 0, none⟩) q cg, .slice B ne ce] W fun e w' => e = .returned (.int .i64 (F pl)) ∧ Below W.heap.size W w') :
    Calls Try.prog 50 #[.agg #[.int .i64 n, .slice B ne ce, .func (.func fid) #[] #[]]] w (FindR w n es fun o => F (posF o)) := by
  have HB := Lib.hid hB
  have HNE := Lib.hid hne
  have HCOST := Lib.hid hcost
  obtain ⟨wa, hwa⟩ : ∃ wa, wa = w.alloc (.cells #[.int .i64 n, .slice B ne ce, .func (.func fid) #[] #[]] 93) := ⟨_, rfl⟩
  have hBa : Below w.heap.size w wa := by rw [hwa]; exact (Below.refl _ _).alloc (Nat.le_refl _) _
  have hlt : w.heap.size < wa.heap.size := by rw [hwa]; simp
  obtain ⟨d0, d1, d2⟩ := box_three w (.int .i64 n) (.slice B ne ce) (.func (.func fid) #[] #[]) 93
  have D0 : Hid (wa.cell? ⟨w.heap.size, 0, none⟩ = some (.int .i64 n)) := by rw [hwa]; exact d0
  have D1 : Hid (wa.cell? ⟨w.heap.size, 1, none⟩ = some (.slice B ne ce)) := by rw [hwa]; exact d1
  have D2 : Hid (wa.cell? ⟨w.heap.size, 2, none⟩ = some (.func (.func fid) #[] #[])) := by rw [hwa]; exact d2
  have CC := Lib.hid (check_calls B ne ce es n wa hne (hB.below hBa) hle hce)
  have HBa := Lib.hid hBa
  have HWA := Lib.hid hwa
  clear hne hB hcost hwa hBa
  rcases check_val n es with ⟨hv, h30, hn, hbad⟩ | hv
  case' inr =>
    obtain ⟨r, hr, hr0⟩ : ∃ q : Int, checkF n es = q ∧ (q = 1 ∨ q = 3) := ⟨_, rfl, hv⟩
    have HQ := Lib.hid hr
    have HFR : Hid (∀ w', Below w.heap.size w w' → FindR w n es (fun o => F (posF o)) (.returned (.tuple #[.int .i64 0, .slice none 0 0, .int .i64 r])) w') := by
      intro w' h
      refine ⟨h, ?_⟩
      rw [if_pos (by omega), hr]
    clear hv hr
    rcases hr0 with rfl | rfl
    all_goals
      go_enter Try.func50, Try.ntmps50
      go_wp2_with fail
      rw [← HWA.out]
      refine CC.out.mono ?_
      rw [HQ.out]
      rintro e w1 ⟨rfl, hB⟩
      have HB1 := Lib.hid (HBa.out.trans (hB.mono HBa.out.size))
      clear hB
      go_wp2_with fail
      go_ret3
      exact HFR.out _ HB1.out
  case inl =>
    obtain ⟨q, rfl⟩ : ∃ q : Nat, n = q := ⟨n.toNat, by omega⟩
    have hq : 1 ≤ q ∧ q ≤ 8 := by omega
    have HG := Lib.hid (edOk_of hbad).2
    have HC := Lib.hid (fun pl g cg W => HCOST.out q hq.1 hq.2 h30 (edOk_of hbad).2 pl g cg W)
    have HV := Lib.hid hv
    obtain ⟨cost, hcost⟩ : ∃ cost : List Int → Int, cost = fun o => F (posF o) := ⟨_, rfl⟩
    have HCO : Hid (∀ o, cost o = F (posF o)) := by intro o; rw [hcost]
    rw [← hcost]
    obtain ⟨bm, pm, hl, -, -, -⟩ := least_spec cost q
    have HL := Lib.hid hl
    have HLX := Lib.hid (lexn_main q)
    clear hv hbad h30 hn hcost HCOST hl
    go_enter Try.func50, Try.ntmps50
    go_wp2_with fail
    rw [← HWA.out]
    refine CC.out.mono ?_
    rw [HV.out]
    rintro e w1 ⟨rfl, hB⟩
    have HB1 := Lib.hid hB
    clear d0 d1 d2 hB
    have d0 := (HB1.out.cell (p := ⟨w.heap.size, 0, none⟩) hlt).trans D0.out
    obtain ⟨w2, hmk, harr, hB2⟩ := arr_made q (by omega) w1
    have hs1 := HB1.out.size
    obtain ⟨N1, hN1⟩ : ∃ N1, N1 = wa.heap.size := ⟨_, rfl⟩
    have HW2 : Hid (Below N1 wa w2) := by rw [hN1]; exact HB1.out.trans (hB2.mono hs1)
    obtain ⟨g, hg⟩ : ∃ g, g = w1.heap.size := ⟨_, rfl⟩
    have HAR : Hid (Arr w2 N1 g q (List.replicate q 0)) := by rw [hg, hN1]; exact harr.weaken hs1
    have hgN : N1 ≤ g := by rw [hg, hN1]; exact hs1
    have hNa : w.heap.size < N1 := by rw [hN1]; exact hlt
    have HNA := Lib.hid hN1
    rw [← hg] at hmk
    clear harr hB2 hs1 hN1 hg
    go_wp2_with fail
    clear hmk d0
    go_loopw [27] (FillI wa N1 g q) (fun s _ => q - (intOf s).toNat)
    case atStart => exact ⟨0, rfl, Nat.zero_le _, by rw [fill_zero]; exact HAR.out, HW2.out⟩
    case round =>
      obtain ⟨i, rfl, hi, HAr, HBr⟩ := hrel
      by_cases hlti : i < q
      · have f1 := HAr.out.free i
        have c1 := HAr.out.at i (by simp; exact hlti)
        have hset := HAr.out.set i (i : Int)
        rw [fill_step hlti] at hset
        have HS := Lib.hid hset
        clear hset
        go_wp2_with fail
        go_roundw
        case rel => exact ⟨i + 1, by go_num, by omega, HS.out.1, HBr.out.trans HS.out.2⟩
        case measure => simp [intOf]; omega
      · have HA1 : Hid (Arr wr N1 g q (idn q)) := by
          have := HAr.out
          rw [show i = q by omega, fill_all] at this
          exact this
        obtain ⟨W1, hW1⟩ : ∃ W1, W1 = wr := ⟨_, rfl⟩
        rw [← hW1] at HA1 HBr ⊢
        clear hW1 HAr
        go_wp2_with fail
        go_loopg [8, 9, 10] (lexF q (idn q)).length (FindI wa N1 g q cost)
        case atStart =>
          refine ⟨[], lexF q (idn q), rfl, rfl, ?_, ?_, ⟨rfl, rfl⟩, HBr, hgN, HA1.out.lt.2⟩
          · cases hz : lexF q (idn q) with
            | nil => exact absurd hz (lexn_ne q)
            | cons => rfl
          · intro o ho
            rw [HLX.out.1] at ho
            cases ho
            exact HA1.out
        case round =>
          obtain ⟨done, rest, HDR, hgh, rfl, HAo, HAcc, HBr2, HGl⟩ := hrel
          cases rest with
          | nil =>
            have HPK : Hid (pick cost none done = some (bm, pm)) := by
              have := HDR.out
              rw [List.append_nil] at this
              show _ = _
              rw [this]; exact HL.out
            have hacc := HAcc.out
            rw [HPK.out] at hacc
            obtain ⟨rfl, _, g2, c2, rfl, _, hpl2, hA2⟩ := hacc
            have HA2 := Lib.hid hA2
            have HPL2 := Lib.hid hpl2
            clear hA2 hpl2
            go_wp2_with fail
            go_ret3
            refine ⟨HBa.out.trans (HBr2.out.mono (by omega)), ?_⟩
            rw [if_neg (by rw [HV.out]; simp)]
            show match leastF cost (q : Int).toNat with
              | none => False
              | some (b, p) => _
            rw [Int.toNat_natCast, HL.out]
            exact ⟨g2, c2, by rw [HPL2.out]; rfl, HA2.out.weaken (by omega)⟩
          | cons o l =>
            obtain ⟨hord, hnx⟩ := lex_step HDR.out
            have HNX := Lib.hid hnx
            have HORD := Lib.hid hord
            have HOL : Hid (q = o.length) := hord.len.symm
            have HND := Lib.hid hord.nodup
            have HPO := Lib.hid (pos_ok hord)
            have hArr := HAo.out o rfl
            have HA3 : Hid (Arr wr N1 g q o) := hArr
            have HGN := HGl.out
            have hq2 : 1 ≤ q ∧ q ≤ 1000 := by omega
            have HPL : Hid (placesF q o = some (posF o)) := places_ok hord
            have d0 := (HBr2.out.cell (p := ⟨w.heap.size, 0, none⟩) hNa).trans (by have := D0.out; exact this)
            have d1 := (HBr2.out.cell (p := ⟨w.heap.size, 1, none⟩) hNa).trans (by have := D1.out; exact this)
            have d2 := (HBr2.out.cell (p := ⟨w.heap.size, 2, none⟩) hNa).trans (by have := D2.out; exact this)
            have D0r := Lib.hid d0
            have D1r := Lib.hid d1
            have D2r := Lib.hid d2
            have hNr : w.heap.size < wr.heap.size := Nat.lt_of_lt_of_le hNa (Nat.le_trans HGN.1 (Nat.le_of_lt HGN.2))
            clear hord hnx hArr HAo
            go_wp2_with fail
            refine (places_calls q hq (some ⟨g, 0, none⟩) q q o wr HOL.out HA3.out.rd (Nat.le_refl _) (by omega)).mono ?_
            intro e w3 hpr
            obtain ⟨hB3, hpr2⟩ := hpr
            rw [HPL.out] at hpr2
            obtain ⟨g3, c3, rfl, hA3⟩ := hpr2
            have hpl : (posF o).length = q := HPO.out.1
            have hb3 := hA3.bd
            rw [hpl] at hb3
            rw [hpl]
            have HRD := Lib.hid hA3.rd
            have HB3 := Lib.hid hB3
            clear hA3 hpl d0 d1 d2
            have d1 := (HB3.out.cell (p := ⟨w.heap.size, 1, none⟩) hNr).trans D1r.out
            have d2 := (HB3.out.cell (p := ⟨w.heap.size, 2, none⟩) hNr).trans D2r.out
            have HBE : Hid (RdE w3 B es) := ((HB.out.below HBa.out).below (by have h1 := HBr2.out; rw [HNA.out] at h1; exact h1)).below hB3
            clear hB3
            obtain ⟨hc0, hcall⟩ := HC.out (posF o) g3 c3 w3 HPO.out HRD.out hb3.1 hb3.2 HBE.out
            have HCALL := Lib.hid hcall
            obtain ⟨C, hC⟩ : ∃ C, C = F (posF o) := ⟨_, rfl⟩
            have HCF : Hid (F (posF o) = C) := hC.symm
            rw [← hC] at hc0 HCALL
            clear hcall hC
            go_wp2_with fail
            refine HCALL.out.mono ?_
            rintro e w4 ⟨rfl, hB4⟩
            have HW4 : Hid (Below wr.heap.size wr w4) := HB3.out.trans (hB4.mono HB3.out.size)
            have HA4 : Hid (Arr w4 N1 g q o) := HA3.out.below HW4.out
            have HB4 : Hid (Below N1 wa w4) := HBr2.out.trans (HW4.out.mono (Nat.le_trans HGN.1 (Nat.le_of_lt HGN.2)))
            have HSZ : Hid (wr.heap.size ≤ w4.heap.size) := HW4.out.size
            have HACC4 : Hid (AccOk N1 g q (pick cost none done) u8 u9 w4) := HAcc.out.keep fun b _ hb => HW4.out.block b hb
            clear hB4 d1 d2
            cases hpk : pick cost none done with
            | none =>
              have HPK := Lib.hid hpk
              have hacc := HACC4.out
              rw [hpk] at hacc
              obtain ⟨rfl, rfl⟩ := hacc
              clear hpk
              go_wp2_with fail
              refine (clone_calls ⟨g, 0, none⟩ q q o w4 HOL.out HA4.out.rd (by have := HOL.out; omega)).mono ?_
              rintro e w5 ⟨g5, c5, rfl, hA5, hB5⟩
              have HG5 : Hid (w4.heap.size ≤ g5) := hA5.lt.1
              have HA5 : Hid (Arr w5 N1 g5 c5 o) := hA5.weaken (Nat.le_trans (Nat.le_trans HGN.1 (Nat.le_of_lt HGN.2)) HSZ.out)
              have HAR5 := Lib.hid (HA4.out.below hB5)
              have HBW := Lib.hid (HB4.out.trans (hB5.mono (by have := HA4.out.lt; omega)))
              have HGS : Hid (g < w5.heap.size) := HAR5.out.lt.2
              clear hA5 hB5
              have HACC5 : Hid (AccOk N1 g q (pick cost none (done ++ [o])) (.int .i64 C) (.slice (some ⟨g5, 0, none⟩) q c5) w5) := by
                show AccOk _ _ _ _ _ _ _
                rw [pick_snoc, HPK.out]
                simp only
                have hco := HCO.out o
                have hcf := HCF.out
                exact ⟨by rw [hco, hcf], by rw [hco, hcf]; exact hc0.1, g5, c5, rfl, by have := HG5.out; have := HA4.out.lt.2; omega, HOL.out.symm, HA5.out⟩
              go_wp2_with fail
              refine (next_calls N1 g q o q w5 HAR5.out HOL.out hq2 HND.out).mono ?_
              intro e w6 hnx
              have HNXP := Lib.hid hnx
              clear hnx
              have HNN := HNX.out
              cases l with
              | nil =>
                have h6 := HNXP.out
                unfold NextP at h6
                rw [HNN] at h6
                obtain ⟨hB6, rfl, hA6⟩ := h6
                have HB6 := Lib.hid hB6
                clear hB6 hA6 HNN
                go_wp2_with fail
                go_roundg 0
                case measure => simp [hgh]
                case rel => exact ⟨done ++ [o], [], by show _ = _; rw [← HDR.out]; simp, rfl, rfl, (fun o' h' => by cases h'), (HACC5.out).keep fun b hb _ => HB6.out.2 b hb, HBW.out.trans HB6.out.1, HGN.1, by
                  have h7 := HGS.out
                  have h8 := HB6.out.1.size
                  exact Nat.lt_of_lt_of_le h7 h8⟩
              | cons o2 l2 =>
                have h6 := HNXP.out
                unfold NextP at h6
                rw [HNN] at h6
                obtain ⟨hB6, rfl, hA6⟩ := h6
                have HB6 := Lib.hid hB6
                have HA6 := Lib.hid hA6
                clear hB6 hA6 HNN
                go_wp2_with fail
                go_roundg (l2.length + 1)
                case measure => simp [hgh]
                case rel => exact ⟨done ++ [o], o2 :: l2, by show _ = _; rw [← HDR.out]; simp, rfl, rfl, (fun o' h' => by cases h'; exact HA6.out), (HACC5.out).keep fun b hb _ => HB6.out.2 b hb, HBW.out.trans HB6.out.1, HGN.1, by
                  have h7 := HGS.out
                  have h8 := HB6.out.1.size
                  exact Nat.lt_of_lt_of_le h7 h8⟩
            | some x =>
              obtain ⟨b, p⟩ := x
              have HPK := Lib.hid hpk
              have hacc := HACC4.out
              rw [hpk] at hacc
              obtain ⟨rfl, hb0, g2, c2, rfl, hg2, hpl2, hA2⟩ := hacc
              have HA2 := Lib.hid hA2
              have hbneg : decide (b < 0) = false := decide_eq_false (by omega)
              clear hpk hA2
              by_cases hcb : C < b
              · have hcb2 : decide (C < b) = true := decide_eq_true hcb
                go_wp2_with fail
                refine (clone_calls ⟨g, 0, none⟩ q q o w4 HOL.out HA4.out.rd (by have := HOL.out; omega)).mono ?_
                rintro e w5 ⟨g5, c5, rfl, hA5, hB5⟩
                have HG5 : Hid (w4.heap.size ≤ g5) := hA5.lt.1
                have HA5 : Hid (Arr w5 N1 g5 c5 o) := hA5.weaken (Nat.le_trans (Nat.le_trans HGN.1 (Nat.le_of_lt HGN.2)) HSZ.out)
                have HAR5 := Lib.hid (HA4.out.below hB5)
                have HBW := Lib.hid (HB4.out.trans (hB5.mono (by have := HA4.out.lt; omega)))
                have HGS : Hid (g < w5.heap.size) := HAR5.out.lt.2
                clear hA5 hB5
                have HACC5 : Hid (AccOk N1 g q (pick cost none (done ++ [o])) (.int .i64 C) (.slice (some ⟨g5, 0, none⟩) q c5) w5) := by
                  show AccOk _ _ _ _ _ _ _
                  rw [pick_snoc, HPK.out]
                  simp only
                  rw [if_pos (by rw [HCO.out]; have := HCF.out; omega)]
                  have hco := HCO.out o
                  have hcf := HCF.out
                  exact ⟨by rw [hco, hcf], by rw [hco, hcf]; exact hc0.1, g5, c5, rfl, by have := HG5.out; have := HA4.out.lt.2; omega, HOL.out.symm, HA5.out⟩
                go_wp2_with fail
                refine (next_calls N1 g q o q w5 HAR5.out HOL.out hq2 HND.out).mono ?_
                intro e w6 hnx
                have HNXP := Lib.hid hnx
                clear hnx
                have HNN := HNX.out
                cases l with
                | nil =>
                  have h6 := HNXP.out
                  unfold NextP at h6
                  rw [HNN] at h6
                  obtain ⟨hB6, rfl, hA6⟩ := h6
                  have HB6 := Lib.hid hB6
                  clear hB6 hA6 HNN
                  go_wp2_with fail
                  go_roundg 0
                  case measure => simp [hgh]
                  case rel => exact ⟨done ++ [o], [], by show _ = _; rw [← HDR.out]; simp, rfl, rfl, (fun o' h' => by cases h'), (HACC5.out).keep fun b hb _ => HB6.out.2 b hb, HBW.out.trans HB6.out.1, HGN.1, by
                    have h7 := HGS.out
                    have h8 := HB6.out.1.size
                    exact Nat.lt_of_lt_of_le h7 h8⟩
                | cons o2 l2 =>
                  have h6 := HNXP.out
                  unfold NextP at h6
                  rw [HNN] at h6
                  obtain ⟨hB6, rfl, hA6⟩ := h6
                  have HB6 := Lib.hid hB6
                  have HA6 := Lib.hid hA6
                  clear hB6 hA6 HNN
                  go_wp2_with fail
                  go_roundg (l2.length + 1)
                  case measure => simp [hgh]
                  case rel => exact ⟨done ++ [o], o2 :: l2, by show _ = _; rw [← HDR.out]; simp, rfl, rfl, (fun o' h' => by cases h'; exact HA6.out), (HACC5.out).keep fun b hb _ => HB6.out.2 b hb, HBW.out.trans HB6.out.1, HGN.1, by
                    have h7 := HGS.out
                    have h8 := HB6.out.1.size
                    exact Nat.lt_of_lt_of_le h7 h8⟩
              · have hcb2 : decide (C < b) = false := decide_eq_false hcb
                have HACC5 : Hid (AccOk N1 g q (pick cost none (done ++ [o])) (.int .i64 b) (.slice (some ⟨g2, 0, none⟩) q c2) w4) := by
                  show AccOk _ _ _ _ _ _ _
                  rw [pick_snoc, HPK.out]
                  simp only
                  rw [if_neg (by rw [HCO.out]; have := HCF.out; omega)]
                  exact ⟨rfl, hb0, g2, c2, rfl, hg2, hpl2, HA2.out⟩
                have HAR5 := Lib.hid HA4.out
                have HBW := Lib.hid HB4.out
                have HGS : Hid (g < w4.heap.size) := HA4.out.lt.2
                go_wp2_with fail
                refine (next_calls N1 g q o q w4 HAR5.out HOL.out hq2 HND.out).mono ?_
                intro e w6 hnx
                have HNXP := Lib.hid hnx
                clear hnx
                have HNN := HNX.out
                cases l with
                | nil =>
                  have h6 := HNXP.out
                  unfold NextP at h6
                  rw [HNN] at h6
                  obtain ⟨hB6, rfl, hA6⟩ := h6
                  have HB6 := Lib.hid hB6
                  clear hB6 hA6 HNN
                  go_wp2_with fail
                  go_roundg 0
                  case measure => simp [hgh]
                  case rel => exact ⟨done ++ [o], [], by show _ = _; rw [← HDR.out]; simp, rfl, rfl, (fun o' h' => by cases h'), (HACC5.out).keep fun b hb _ => HB6.out.2 b hb, HBW.out.trans HB6.out.1, HGN.1, by
                    have h7 := HGS.out
                    have h8 := HB6.out.1.size
                    exact Nat.lt_of_lt_of_le h7 h8⟩
                | cons o2 l2 =>
                  have h6 := HNXP.out
                  unfold NextP at h6
                  rw [HNN] at h6
                  obtain ⟨hB6, rfl, hA6⟩ := h6
                  have HB6 := Lib.hid hB6
                  have HA6 := Lib.hid hA6
                  clear hB6 hA6 HNN
                  go_wp2_with fail
                  go_roundg (l2.length + 1)
                  case measure => simp [hgh]
                  case rel => exact ⟨done ++ [o], o2 :: l2, by show _ = _; rw [← HDR.out]; simp, rfl, rfl, (fun o' h' => by cases h'; exact HA6.out), (HACC5.out).keep fun b hb _ => HB6.out.2 b hb, HBW.out.trans HB6.out.1, HGN.1, by
                    have h7 := HGS.out
                    have h8 := HB6.out.1.size
                    exact Nat.lt_of_lt_of_le h7 h8⟩
end Go.Proofs.Ythnhmfmlhlpggaa
