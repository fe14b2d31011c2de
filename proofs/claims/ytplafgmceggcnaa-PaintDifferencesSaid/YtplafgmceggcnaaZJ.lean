/- What is proved: the law of differences, its walk. No condition beyond those in each statement. -/
import Derived.Test.YtplafgmceggcnaaZH
import Derived.Deep.DeepCutAuto
import Derived.Deep.CutRange
namespace Go.Proofs.Ytplafgmceggcnaa
open Go.RowKit

def colsTo (bs : List Int) (k : Nat) : List Int := (bs.take k).map fun y => y % 2
theorem colsTo_succ (bs : List Int) (k : Nat) (h : k < bs.length) : colsTo bs (k + 1) = colsTo bs k ++ [bs[k] % 2] := by
  unfold colsTo
  rw [List.take_succ_eq_append_getElem h, List.map_append]; rfl
theorem colsTo_len (bs : List Int) (k : Nat) (h : k ≤ bs.length) : (colsTo bs k).length = k := by unfold colsTo; rw [List.length_map, List.length_take]; omega
theorem colsTo_01 (bs : List Int) (k : Nat) : ∀ y ∈ colsTo bs k, y = 0 ∨ y = 1 := fun y hy => by
  obtain ⟨j, _, rfl⟩ := List.mem_map.1 hy
  omega
def diffTo (cs : List Int) (es : List (Nat × Nat)) : List Int := es.map fun e => cs.getD (e.2 - e.1 - 1) 0
theorem diffTo_snoc (cs : List Int) (es : List (Nat × Nat)) (u v : Nat) : diffTo cs (es ++ [(u, v)]) = diffTo cs es ++ [cs.getD (v - u - 1) 0] := by simp [diffTo]
/-- A coloring of some numbers with two colors. -/
def Two (L : Nat) (cs : List Int) : Prop := cs.length = L ∧ ∀ y ∈ cs, y = 0 ∨ y = 1
theorem two_sumless {L : Nat} (hL : 1 ≤ L ∧ L ≤ 14) : (∃ s, SumlessR L 2 = .ok s ∧ Two L s) ∨ SumlessR L 2 = .error 5 := by
  have := SumlessR_ok (n := L) (r := 2) (by omega)
  rw [show ((2 : Nat) : Int) = 2 from rfl] at this
  rw [this]
  cases hq : (sumlessL L 2).head? with
  | none => exact .inr rfl
  | some s =>
    obtain ⟨_, h2, h3⟩ := leaves_last (List.mem_of_mem_head? hq) hL.1
    refine .inl ⟨s, rfl, h2, fun y hy => ?_⟩
    have := h3 y hy
    omega
theorem diff_form {n L : Nat} (hn : n = L + 1) (hL : 1 ≤ L ∧ L ≤ 7) {cs : List Int} (h : Two L cs) : (decide (((diffL n cs).length : Int) = (npairs n : Nat)) && inRange 2 (diffL n cs)) = true := by
  rw [Bool.and_eq_true, decide_eq_true_eq]
  refine ⟨by unfold diffL; rw [List.length_map, ends_len0 n (by omega)], inRange_of fun y hy => ?_⟩
  unfold diffL at hy
  obtain ⟨e, _, rfl⟩ := List.mem_map.1 hy
  by_cases hi : e.2 - e.1 - 1 < cs.length
  · rw [getD_lt _ () hi]
    have := h.2 _ (List.getElem_mem hi)
    omega
  · rw [List.getD_eq_getElem?_getD, List.getElem?_eq_none (by omega)]; simp
theorem diff_ways {n L : Nat} (hn : n = L + 1) (hL : 1 ≤ L ∧ L ≤ 7) {cs : List Int} (h : Two L cs) :
    ∃ r rs q qs, SumR cs = (rs, r) ∧ CliqueR n (diffL n cs) 0 3 = (q, qs) ∧ (∃ t ts, CliqueR n (diffL n cs) 1 3 = (t, ts) ∧ ((r = 5 ∧ qs = 5 ∧ ts = 5) ∨ (r = 0 ∧ qs = 0) ∨ (r = 0 ∧ qs = 5 ∧ ts = 0))) := by
  have h1 := SumR_ok (cs := cs) (by have := h.1; omega) (by have := h.1; omega) (inRange_of fun y hy => by have := h.2 y hy; omega)
  have h2 := CliqueR_ok (n := n) (color := 0) (k := 3) (by omega) (diff_form hn hL h)
  have h3 := CliqueR_ok (n := n) (color := 1) (k := 3) (by omega) (diff_form hn hL h)
  have hd := diff_sum (n := n) (by omega) (by have := h.1; omega) h.2
  rw [← cliqueF_free, ← cliqueF_free] at hd
  refine ⟨_, _, _, _, h1, h2, _, _, h3, ?_⟩
  cases a : sumF cs with
  | none =>
    obtain ⟨g1, g2⟩ := hd.1 a
    rw [g1, g2]
    exact .inl ⟨rfl, rfl, rfl⟩
  | some x =>
    cases b : cliqueF (okP (diffL n cs) n 0) n 3 [] with
    | some y => exact .inr (.inl ⟨rfl, rfl⟩)
    | none =>
      cases c : cliqueF (okP (diffL n cs) n 1) n 3 [] with
      | some z => exact .inr (.inr ⟨rfl, rfl, rfl⟩)
      | none => rw [hd.2 ⟨b, c⟩] at a; cases a

set_option maxRecDepth 100000 in
set_option maxHeartbeats 16000000 in
theorem differenceslaw_calls (A : Option Addr) (nb cb : Nat) (bs : List Int) (hbs : ∀ y ∈ bs, 0 ≤ y ∧ y ≤ 255) (w : World) (hn : nb = bs.length) (hA : RdU w A bs) (_hl : nb ≤ cb) (_hc : cb ≤ 9223372036854775807) :
    Calls Try.prog 13 #[.slice A nb cb] w fun e w' => e = .returned (.bool true) ∧ Below w.heap.size w w' := by
  have HBS := Lib.hid hbs
  have HN := Lib.hid hn
  have HA := Lib.hid hA
  clear hbs hn hA
  go_enter Try.func13, Try.ntmps13
  go_wp2_with fail
  obtain ⟨W0, hW0⟩ : ∃ q, q = w.alloc (.cells #[] 3) := ⟨_, rfl⟩
  have HB0 : Hid (Below w.heap.size w W0) := by rw [hW0]; exact (Below.refl _ _).alloc (Nat.le_refl _) _
  rw [← hW0]
  clear hW0
  go_loopw [3, 4] (fun q v wr => ∃ i : Nat, v = .int .i64 i ∧ i ≤ nb ∧ i ≤ 7 ∧ Hid (Grow W0 (colsTo bs i) q wr)) (fun _ v _ => nb - (intOf v).toNat)
  case atStart => exact ⟨0, rfl, Nat.zero_le _, by omega, Grow.new W0 _⟩
  case round =>
    obtain ⟨i, rfl, hi, hi14, HG⟩ := hrel
    have hgl : (colsTo bs i).length ≤ 1000 := by rw [colsTo_len _ _ (by have := HN.out; omega)]; omega
    have hgb := HG.out.1
    obtain ⟨Ag, ng, cg, rfl, hng⟩ : ∃ A n c, u3 = .slice (some A) n c ∧ True := by
      obtain ⟨_, A, n, c, e, _⟩ := HG.out
      exact ⟨A, n, c, e, trivial⟩
    by_cases hb : i < nb ∧ i < 7
    · obtain ⟨hb1, hb2⟩ := hb
      have hil : i < bs.length := by have := HN.out; omega
      obtain ⟨b, o, rfl, hbl, hc1⟩ := (HA.out.below HB0.out).at i hil
      have d1 := (hgb.cell (p := ⟨b, o + i, none⟩) hbl).trans hc1
      have hy := HBS.out _ (List.getElem_mem hil)
      have HS := Lib.hid (colsTo_succ bs i hil)
      obtain ⟨y, hy2⟩ : ∃ y, y = bs[i] := ⟨_, rfl⟩
      rw [← hy2] at d1 hy HS
      obtain ⟨A', n', c', w', hrun, hg⟩ := HG.out.push (y % 2) hgl
      have HRUN := Lib.hid hrun
      have HG2 := Lib.hid hg
      clear hrun hg hgl hgb hc1 hy2 hng
      go_wp2_with (at_builtin; refine wpList_app rfl (.tmp 30) (.tmp 37) 22 22 rfl rfl _ _ rfl rfl HRUN.out ?_)
      go_roundw
      case rel => exact ⟨i + 1, by go_num, by omega, by omega, by rw [HS.out]; exact HG2.out⟩
      case measure => simp [intOf]; omega
    · have hin : i = min bs.length 7 := by have := HN.out; omega
      have hl7 := colsTo_len bs i (by have := HN.out; omega)
      have h01 := colsTo_01 bs i
      obtain ⟨cs, hcs⟩ : ∃ q, q = colsTo bs i := ⟨_, rfl⟩
      rw [← hcs] at HG hl7 h01
      have HT : Hid (Two i cs) := ⟨hl7, h01⟩
      have hngi : ng = i := by
        obtain ⟨_, A', n', c', e, hl', _⟩ := HG.out
        cases e
        rw [hl', hl7]
      subst hngi
      clear hcs hl7 h01 hgl hgb hng hin
      obtain ⟨W2, hW2⟩ : ∃ q, q = wr := ⟨_, rfl⟩
      rw [← hW2] at HG ⊢
      clear hW2
      have HW2 := Lib.hid (HB0.out.trans (HG.out.1.mono HB0.out.size))
      obtain ⟨A8, n8, c8, e8, g1, g2, g3, g4⟩ := HG.out.parts
      cases e8
      have HN8 := Lib.hid g1
      have HR8 := Lib.hid g4
      clear g1 g4 HG
      go_upto_region 3 with fail
      go_cut [27] (fun q wx => q = .bool false ∧ W2 = wx)
      case first =>
        by_cases hb1 : ng < nb
        · have hb2 : decide ((ng : Int) < 7) = false := decide_eq_false (by omega)
          clear hb
          go_wp2_with fail
          go_meet
          exact ⟨rfl, rfl⟩
        · clear hb
          go_wp2_with fail
          go_meet
          exact ⟨rfl, rfl⟩
      case rest =>
        obtain ⟨rfl, rfl⟩ := hcut
        clear hb
        rcases Nat.eq_zero_or_pos ng with h0 | h0
        · have hq : ((ng : Int) == 0) = true := by rw [beq_iff_eq]; omega
          clear h0
          go_wp2_with fail
          refine (lives_calls _).mono ?_
          rintro e x9 ⟨rfl, hB⟩
          have HX9 := Lib.hid (HW2.out.trans (hB.mono HW2.out.size))
          clear hB
          go_wp2_with fail
          go_ret
          exact ⟨rfl, HX9.out⟩
        · have hq : ((ng : Int) == 0) = false := by rw [beq_eq_false_iff_ne]; omega
          have WS := two_sumless (L := ng) (by omega)
          have CS := Lib.hid (sumless_calls ng 2 W2)
          have HSL : Hid (∃ ss, Two ng ss ∧ (SumlessR ng 2 = .ok ss ∨ SumlessR ng 2 = .error 5)) := by
            rcases WS with ⟨s, h1, h2⟩ | h1
            · exact ⟨s, h2, .inl h1⟩
            · exact ⟨cs, HT.out, .inr h1⟩
          clear WS
          go_wp2_with fail
          refine CS.out.mono ?_
          intro e w3 hres
          have hB := hres.below
          have HRES := Lib.hid hres
          obtain ⟨v3, q3, rfl⟩ := hres.tuple
          have HR8 := Lib.hid (HR8.out.below hB)
          have HW2 := Lib.hid (HW2.out.trans (hB.mono HW2.out.size))
          clear hB hres
          have hres2 : (∃ A n c ss, v3 = .slice (some A) n c ∧ q3 = 0 ∧ n = ss.length ∧ n ≤ c ∧ c ≤ 9223372036854775807 ∧ Rd w3 (some A) ss ∧ Two ng ss) ∨ q3 = 5 := by
            obtain ⟨ss, ht, hs | hs⟩ := HSL.out
            · have := HRES.out
              rw [hs] at this
              obtain ⟨A, n, c, e, g1, g2, g3, g4, _⟩ := this
              cases e
              obtain ⟨b, o, eA, _⟩ := g4 (by intro e; have := ht.1; rw [e] at this; simp at this; omega)
              subst eA
              exact .inl ⟨_, _, _, ss, rfl, rfl, g1, g2, g3, g4, ht⟩
            · have := HRES.out
              rw [hs] at this
              have := this.1
              cases this
              exact .inr rfl
          have HRES2 := Lib.hid hres2
          clear hres2 HRES HSL CS
          go_upto_if 50 with fail
          go_cut [5] from 51 to 51 (fun q wx => ∃ A n c ss, q = .slice (some A) n c ∧ Hid (n = ss.length) ∧ n ≤ c ∧ c ≤ 9223372036854775807 ∧ Hid (Rd w3 (some A) ss) ∧ Hid (Two ng ss) ∧ w3 = wx)
          case first =>
            rcases HRES2.out with ⟨A, n, c, ss, rfl, rfl, h1, h2, h3, h4, h5⟩ | rfl
            · have HH := Lib.hid h1
              clear h1
              go_wp2_with fail
              go_meet
              exact ⟨_, _, _, ss, rfl, HH, h2, h3, h4, h5, rfl⟩
            · go_wp2_with fail
              go_meet
              exact ⟨_, _, _, cs, rfl, HN8, g2, g3, HR8, HT, rfl⟩
          case rest =>
            obtain ⟨A5, n5, c5, ss, rfl, HN5, k2, k3, HR5, HT5, rfl⟩ := hcut
            clear HRES2 hq
            go_wp2_with fail
            obtain ⟨W3, hW3⟩ : ∃ q, q = w3.alloc (.cells #[.slice (some Ag) ng cg, .slice (some A5) n5 c5] 22) := ⟨_, rfl⟩
            have hB3 : Below w3.heap.size w3 W3 := by rw [hW3]; exact (Below.refl _ _).alloc (Nat.le_refl _) _
            have hc0 : W3.cell? ⟨w3.heap.size, 0, none⟩ = some (.slice (some Ag) ng cg) := by rw [hW3, World.cell?_alloc_at _ _ _ _ rfl]; rfl
            have hc1 : W3.cell? ⟨w3.heap.size, 1, none⟩ = some (.slice (some A5) n5 c5) := by rw [hW3, World.cell?_alloc_at _ _ _ _ rfl]; rfl
            have hsz : w3.heap.size < W3.heap.size := by rw [hW3]; simp
            rw [← hW3]
            have HEL : Hid (∀ i : Nat, i < 2 → ∃ A n c l, W3.cell? ⟨w3.heap.size, i, none⟩ = some (.slice (some A) n c) ∧ n = l.length ∧ n ≤ c ∧ c ≤ 9223372036854775807 ∧ Rd W3 (some A) l ∧ Two ng l) := by
              intro i hi
              rcases (show i = 0 ∨ i = 1 by omega) with rfl | rfl
              · exact ⟨_, _, _, cs, hc0, HN8.out, g2, g3, HR8.out.below hB3, HT.out⟩
              · exact ⟨_, _, _, ss, hc1, HN5.out, k2, k3, HR5.out.below hB3, HT5.out⟩
            have HW3 := Lib.hid (HW2.out.trans (hB3.mono HW2.out.size))
            clear hW3 hB3 hc0 hc1
            go_loopw [56] (fun v wr => ∃ i : Nat, v = .int .i64 i ∧ i ≤ 2 ∧ Hid (Below W3.heap.size W3 wr)) (fun v _ => 2 - (intOf v).toNat)
            case atStart => exact ⟨0, rfl, by omega, Below.refl _ _⟩
            case round =>
              obtain ⟨i, rfl, hi2, HBi⟩ := hrel
              by_cases hlt : i < 2
              · have hltd : decide ((i : Int) < 2) = true := decide_eq_true (by omega)
                obtain ⟨Al, nl, cl, l, hcl, hl1, hl2, hl3, hl4, hl5⟩ := HEL.out i hlt
                have hcl2 := (HBi.out.cell (p := ⟨w3.heap.size, i, none⟩) hsz).trans hcl
                have hlen := hl5.1
                have hnl : nl = ng := by rw [hl1, hlen]
                have HL1 := Lib.hid hl1
                have HL4 := Lib.hid (hl4.below HBi.out)
                have HL5 := Lib.hid hl5
                clear hcl hl1 hl4 hl5 hlen
                subst hnl
                obtain ⟨n, hn⟩ : ∃ n : Nat, n = nl + 1 := ⟨_, rfl⟩
                have hnn : (nl : Int) + 1 = n := by omega
                have hn8 : n ≤ 8 := by omega
                obtain ⟨r, rs, q, qs, hs1, hs2, t, ts, hs3, hways⟩ := diff_ways hn (by omega) HL5.out
                have HS1 := Lib.hid hs1
                have HS2 := Lib.hid hs2
                have HS3 := Lib.hid hs3
                have HWY := Lib.hid hways
                have HNN := Lib.hid hn
                clear hn hs1 hs2 hs3 hways
                obtain ⟨Wi, hWi⟩ : ∃ q, q = wr := ⟨_, rfl⟩
                rw [← hWi] at HBi HL4 hcl2 ⊢
                clear hWi
                go_wp2_with fail
                obtain ⟨W4, hW4⟩ : ∃ q, q = Wi.alloc (.cells #[] 3) := ⟨_, rfl⟩
                have HB4 : Hid (Below Wi.heap.size Wi W4) := by rw [hW4]; exact (Below.refl _ _).alloc (Nat.le_refl _) _
                rw [← hW4]
                have HL4 := Lib.hid (HL4.out.below HB4.out)
                clear hW4 hcl2
                go_loopw [10, 11] (fun q v wr => ∃ a : Nat, v = .int .i64 a ∧ a ≤ n ∧ Hid (Grow W4 (diffTo l (endsTo n a)) q wr)) (fun _ v _ => n - (intOf v).toNat)
                case atStart => exact ⟨0, rfl, Nat.zero_le _, Grow.new W4 _⟩
                case round =>
                  obtain ⟨a, rfl, ha, HG⟩ := hrel
                  by_cases hlta : a < n
                  · go_wp2_with fail
                    go_loopw [10, 12] (fun q v wr => ∃ b : Nat, v = .int .i64 b ∧ a + 1 ≤ b ∧ b ≤ n ∧ Hid (Grow W4 (diffTo l (endsTo n a ++ rowTo a b)) q wr)) (fun _ v _ => n - (intOf v).toNat)
                    case atStart => exact ⟨a + 1, by go_num, Nat.le_refl _, by omega, by rw [rowTo_nil, List.append_nil]; exact HG.out⟩
                    case round =>
                      clear HG
                      obtain ⟨b, rfl, hab, hbn, HG⟩ := hrel
                      by_cases hltb : b < n
                      · obtain ⟨dd, hdd⟩ : ∃ d : Nat, b = a + 1 + d := ⟨b - a - 1, by omega⟩
                        have hdl : dd < l.length := by have := HL1.out; have := HNN.out; omega
                        have hdl2 : dd < nl := by have := HNN.out; omega
                        have hgl : (diffTo l (endsTo n a ++ rowTo a b)).length ≤ 1000 := by
                          unfold diffTo
                          rw [List.length_map, List.length_append, rowTo_len]
                          have := endsTo_len n a
                          have h8 : a * n ≤ 8 * 8 := Nat.mul_le_mul (by omega) (by omega)
                          omega
                        obtain ⟨bl, ol, el, hbl, hcel⟩ := HL4.out.at dd hdl
                        cases el
                        have d1 := (HG.out.1.cell (p := ⟨bl, ol + dd, none⟩) hbl).trans hcel
                        obtain ⟨y, hy⟩ : ∃ y, y = l[dd] := ⟨_, rfl⟩
                        have HS : Hid (diffTo l (endsTo n a ++ rowTo a b ++ [(a, b)]) = diffTo l (endsTo n a ++ rowTo a b) ++ [y]) := by
                          show _ = _
                          rw [diffTo_snoc, show b - a - 1 = dd by omega, getD_lt _ () hdl, hy]
                        rw [← hy] at d1
                        obtain ⟨Ag, ng', cg, rfl, hng⟩ : ∃ A n c, u10 = .slice (some A) n c ∧ True := by
                          obtain ⟨_, A, n, c, e, _⟩ := HG.out
                          exact ⟨A, n, c, e, trivial⟩
                        obtain ⟨A', n', c', w', hrun, hg⟩ := HG.out.push y hgl
                        have HRUN := Lib.hid hrun
                        have HG2 := Lib.hid hg
                        have e1 : (b : Int) - a - 1 = dd := by omega
                        clear hrun hg hgl hcel hy hdd hng
                        go_wp2_with (at_builtin; refine wpList_app rfl (.tmp 83) (.tmp 91) 22 22 rfl rfl _ _ rfl rfl HRUN.out ?_)
                        go_roundw
                        case rel => exact ⟨b + 1, by go_num, by omega, by omega, by rw [rowTo_succ a b hab, ← List.append_assoc, HS.out]; exact HG2.out⟩
                        case measure => simp [intOf]; omega
                      · have hbn' : b = n := by omega
                        have HG3 : Hid (Grow W4 (diffTo l (endsTo n (a + 1))) u10 wr) := by
                          have := HG.out
                          rw [hbn', ← endsTo_succ] at this; exact this
                        clear hbn'
                        go_wp2_with fail
                        go_roundw
                        case rel => exact ⟨a + 1, by go_num, by omega, HG3.out⟩
                        case measure => simp [intOf]; omega
                  · have han : a = n := by omega
                    have HG3 : Hid (Grow W4 (diffL n l) u10 wr) := by
                      have := HG.out
                      rw [han, endsTo_all] at this; exact this
                    clear han HG
                    obtain ⟨A9, n9, c9, rfl, p1, p2, p3, p4⟩ := HG3.out.parts
                    have HP1 := Lib.hid p1
                    have HP4 := Lib.hid p4
                    have HLr := Lib.hid (HL4.out.below HG3.out.1)
                    have HBr := Lib.hid (HBi.out.trans (((HB4.out).trans (HG3.out.1.mono HB4.out.size)).mono HBi.out.size))
                    clear p1 p4 HG3
                    rcases HWY.out with ⟨rfl, rfl, rfl⟩ | ⟨rfl, rfl⟩ | ⟨rfl, rfl, rfl⟩
                    all_goals
                      go_wp2_with fail
                      refine (Sum_calls (some Al) nl cl l _ HL1.out HLr.out hl2 hl3).mono ?_
                      rw [HS1.out]
                      rintro e w5 ⟨v5, rfl, _, hB⟩
                      have HP4 := Lib.hid (HP4.out.below hB)
                      have HBr := Lib.hid (HBr.out.trans (hB.mono HBr.out.size))
                      clear hB
                      go_wp2_with fail
                      refine (Clique_calls n 0 3 (some A9) n9 c9 (diffL n l) _ HP1.out HP4.out p2 p3).mono ?_
                      rw [HS2.out]
                      rintro e w6 ⟨v6, rfl, _, hB⟩
                      have HP4 := Lib.hid (HP4.out.below hB)
                      have HBr := Lib.hid (HBr.out.trans (hB.mono HBr.out.size))
                      clear hB
                      go_wp2_with fail
                      refine (Clique_calls n 1 3 (some A9) n9 c9 (diffL n l) _ HP1.out HP4.out p2 p3).mono ?_
                      rw [HS3.out]
                      rintro e w7 ⟨v7, rfl, _, hB⟩
                      have HBr := Lib.hid (HBr.out.trans (hB.mono HBr.out.size))
                      clear hB
                      go_wp2_with fail
                      go_roundw
                      case rel => exact ⟨i + 1, by go_num, by omega, HBr.out⟩
                      case measure => simp [intOf]; omega
              · go_wp2_with fail
                refine (lives_calls _).mono ?_
                rintro e x9 ⟨rfl, hB⟩
                have HX9 := Lib.hid (HW3.out.trans ((HBi.out.trans (hB.mono HBi.out.size)).mono HW3.out.size))
                clear hB
                go_wp2_with fail
                go_ret
                exact ⟨rfl, HX9.out⟩
end Go.Proofs.Ytplafgmceggcnaa
