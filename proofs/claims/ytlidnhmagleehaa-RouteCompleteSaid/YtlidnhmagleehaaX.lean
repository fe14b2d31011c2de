/- What is proved: the law of complete graphs (G5). No condition beyond those in each statement. -/
import Derived.Test.YtlidnhmagleehaaW
namespace Go.Proofs.Ytlidnhmagleehaa
open Go.RowKit

theorem gb_drew {w w' : World} {row : Option Nat} (h : w.grownBy w' row) : w.grownBy w'.drew row := h.trans ⟨rfl, rfl, rfl, Nat.le_refl _, fun _ _ _ => rfl⟩
theorem gb_alloc {w w' : World} {row : Option Nat} (h : w.grownBy w' row) (o : Obj) : w.grownBy (w'.alloc o) row := h.trans (World.grownBy_alloc w' o row)
/-- What an append leaves: the row alone has changed. -/
def AppG (W : World) (base g : Nat) (es : List (Int × Int)) (v' : Value) (w' : World) : Prop :=
  ∃ g' c', v' = .slice (some ⟨g', 0, none⟩) es.length c' ∧ OwE w' base g' c' es ∧ W.grownBy w' (some g)
theorem owe_oneG {w : World} {base g b c cb n : Nat} {es : List (Int × Int)} {x y : Int} (hn : n = es.length) (h : OwE w base g c es) (hF : NB w b x y) (hb : base ≤ w.heap.size) (hl : es.length ≤ 999) :
    ∃ v' w', (Builtin.append_ #[22, 22] 22 #[.slice (some ⟨g, 0, none⟩) n c, .slice (some ⟨b, 0, none⟩) 1 cb]).run Try.prog w = .ok v' w' ∧ AppG w base g (es ++ [(x, y)]) v' w' := by
  subst hn
  obtain ⟨i0, hi, hz0, hz1, hz2⟩ := info_parts info55
  have hF' : ∀ j u, (pairC [(x, y)])[j]? = some u → w.cell? ((⟨b, 0, none⟩ : Addr).add j) = some u := by
    intro j u hj
    rw [addr_add, Nat.zero_add]
    match j, hj with
    | 0, hj => cases hj; exact hF.2.1
    | 1, hj => cases hj; exact hF.2.2
  have hone : ∀ u ∈ pairC [(x, y)], u.oneCell' = true := by
    intro u hu
    simp [pairC] at hu
    rcases hu with rfl | rfl <;> rfl
  obtain ⟨v', w', hrun, r1, r2, r3⟩ := run_append_own (P := Try.prog) w base 22 22 55 i0 (.agg #[.int .i64 0, .int .i64 0]) 2 16 Try.underlying22 hi hz0 hz1 hz2 rfl (by decide) _ es.length (pairC es) h ⟨b, 0, none⟩ 1 cb (pairC [(x, y)]) (pairC_len _) hF' hone (by simp [maxLen]; omega) (by omega) hb
  refine ⟨v', w', hrun, ?_⟩
  have hpc : pairC es ++ pairC [(x, y)] = pairC (es ++ [(x, y)]) := by simp [pairC]
  have hle : es.length + 1 = (es ++ [(x, y)]).length := by simp
  rw [hpc, hle] at r1
  rcases r1.2 with ⟨h', h''⟩ | ⟨g', cap, cur, e, hr⟩
  · exact absurd (r3.1 h').1 (by simp)
  · subst e
    exact ⟨g', cap, rfl, r1, r2⟩
theorem beside {w : World} {base base' g c go co : Nat} {es : List (Int × Int)} {o : List Int} (h : OwE w base g c es) (ha : Arr w base' go co o) : go ≠ g := by
  rintro rfl
  rcases h.2 with ⟨h1, _⟩ | ⟨g1, cap1, cur1, e1, _, hh1, _⟩
  · simp at h1
  · rcases ha.2 with ⟨h2, _⟩ | ⟨g2, cap2, cur2, e2, _, hh2, _⟩
    · simp at h2
    · simp at e1 e2
      rw [← e1.1] at hh1
      rw [← e2.1] at hh2
      rw [hh1] at hh2
      simp at hh2
theorem Arr.beside {w w' : World} {base' g go co : Nat} {o : List Int} (ha : Arr w base' go co o) (hne : go ≠ g) (hg : w.grownBy w' (some g)) : Arr w' base' go co o :=
  World.ownsRow.kept ha hg (.inr (by simpa [Value.ownBlock] using hne))

theorem OwE.same {w w' : World} {base g c : Nat} {es : List (Int × Int)} (h : OwE w base g c es) (e : w'.heap[g]? = w.heap[g]?) : OwE w' base g c es := by
  refine ⟨h.1, ?_⟩
  rcases h.2 with h' | ⟨g', cap, cur, e1, hb, hh, rest⟩
  · exact .inl h'
  · cases e1
    exact .inr ⟨g, c, cur, rfl, hb, by rw [e]; exact hh, rest⟩
theorem OwE.lt {w : World} {base g c : Nat} {es : List (Int × Int)} (h : OwE w base g c es) : base ≤ g ∧ g < w.heap.size := World.ownsRow.lt h g rfl
theorem OwE.below {w w' : World} {base g c : Nat} {es : List (Int × Int)} (h : OwE w base g c es) (hb : Below w.heap.size w w') : OwE w' base g c es := h.same (hb.block g h.lt.2)
def compIn (o : List Int) (i j : Nat) : List (Int × Int) := compE o i ++ (List.range j).map fun t => (o.getD i 0, o.getD t 0)
theorem compIn_zero (o : List Int) (i : Nat) : compIn o i 0 = compE o i := by simp [compIn]
theorem compIn_succ (o : List Int) (i j : Nat) : compIn o i (j + 1) = compIn o i j ++ [(o.getD i 0, o.getD j 0)] := by simp [compIn, List.range_succ]
theorem compIn_full (o : List Int) (i : Nat) : compIn o i i = compE o (i + 1) := by rw [compE_succ]; rfl
theorem comp_len (o : List Int) : ∀ k : Nat, 2 * (compE o k).length + k = k * k
  | 0 => rfl
  | k + 1 => by
    have h := comp_len o k
    have e : (k + 1) * (k + 1) = k * k + 2 * k + 1 := by simp [Nat.mul_add, Nat.add_mul]; omega
    rw [compE_succ, List.length_append, List.length_map, List.length_range, e]
    omega
theorem comp_len28 (o : List Int) {k : Nat} (h : k ≤ 8) : (compE o k).length ≤ 28 := by
  have h1 := comp_len o k
  have h2 : k * k ≤ 8 * k := Nat.mul_le_mul_right k h
  omega
def CompJ (w : World) (go co : Nat) (o : List Int) (i : Nat) (s q : Value) (wr : World) : Prop :=
  ∃ j g c L : Nat, q = .int .i64 j ∧ j ≤ i ∧ s = .slice (some ⟨g, 0, none⟩) L c ∧ Hid (L = (compIn o i j).length) ∧ Hid (OwE wr w.heap.size g c (compIn o i j)) ∧ Hid (Arr wr w.heap.size go co o) ∧ Hid (Below w.heap.size w wr)
def CompI (w : World) (go co : Nat) (o : List Int) (k : Nat) (s q : Value) (wr : World) : Prop :=
  ∃ i g c L : Nat, q = .int .i64 i ∧ i ≤ k ∧ s = .slice (some ⟨g, 0, none⟩) L c ∧ Hid (L = (compE o i).length) ∧ Hid (OwE wr w.heap.size g c (compE o i)) ∧ Hid (Arr wr w.heap.size go co o) ∧ Hid (Below w.heap.size w wr)
theorem keep8 {W w' : World} {g : Nat} {p1 p2 : Addr} {v1 v2 : Value} (h1 : W.cell? p1 = some v1) (h2 : W.cell? p2 = some v2) (l1 : p1.block < W.heap.size) (l2 : p2.block < W.heap.size) (n1 : p1.block ≠ g) (n2 : p2.block ≠ g) (hg : W.grownBy w' (some g)) :
    w'.cell? p1 = some v1 ∧ w'.cell? p2 = some v2 ∧ W.grownBy w' (some g) :=
  ⟨(World.grownBy.cell_far hg p1 l1 (by simpa using n1)).trans h1, (World.grownBy.cell_far hg p2 l2 (by simpa using n2)).trans h2, hg⟩
set_option maxHeartbeats 8000000 in
theorem completelaw_calls (x : Int) (B : Option Addr) (m2 c2 : Nat) (bs : List Int) (w : World) (hx : 0 ≤ x ∧ x ≤ 255)
    (hm2 : m2 = bs.length) (hB : RdU w B bs) (hl2 : m2 ≤ c2) (hc2 : c2 ≤ 9223372036854775807) (hbs : ∀ b ∈ bs, 0 ≤ b ∧ b ≤ 255) :
    Calls Try.prog 7 #[.int .u8 x, .slice B m2 c2] w fun e w' => e = .returned (.bool true) ∧ Below w.heap.size w w' := by
  have CO := Lib.hid (fun (n : Nat) (hn : n ≤ 20) (W : World) (h : RdU W B bs) => order_calls n hn B m2 c2 bs W hm2 h hl2 hc2 hbs)
  have HBU := Lib.hid hB
  obtain ⟨r, hr⟩ : ∃ r : Int, x % 8 = r := ⟨_, rfl⟩
  have hr2 : 0 ≤ r ∧ r < 8 := by omega
  have htm : Int.tmod x 8 = r := by rw [← hr]; exact Int.tmod_eq_emod_of_nonneg hx.1
  obtain ⟨k, hk⟩ : ∃ k : Nat, r + 1 = (k : Int) := ⟨(r + 1).toNat, by omega⟩
  have hk8 : 1 ≤ k ∧ k ≤ 8 := by omega
  have wk : IntKind.i64.wrap (r + 1) = (k : Int) := by rw [← hk]; exact IntWalk.i64_in _ (by omega)
  have wx : IntKind.i64.wrap x = x := IntWalk.i64_in _ (by omega)
  clear hm2 hB hbs hr hk
  go_enter Try.func7, Try.ntmps7
  go_wp2_with fail
  refine (CO.out k (by omega) _ (HBU.out.below ((Below.refl _ _).alloc (Nat.le_refl _) _))).mono ?_
  rintro e w2 ⟨o, go, co, hord, rfl, har, hB2⟩
  have hkc := har.bd
  rw [hord.len] at hkc
  have hBB : Below w.heap.size w (w.alloc (.cells #[] 55)) := (Below.refl _ _).alloc (Nat.le_refl _) _
  have HO0 := Lib.hid ((owe_new w w.heap.size (Nat.le_refl _)).below hB2)
  have HA0 := Lib.hid (har.weaken hBB.size)
  have HB0 := Lib.hid (hBB.trans (hB2.mono hBB.size))
  have HORD := Lib.hid hord
  clear hord har hB2 hBB hr2 htm wk wx
  go_wp2_with fail
  go_loopw [6, 8] (CompI w go co o k) (fun _ q _ => k - (intOf q).toNat)
  case atStart => exact ⟨0, w.heap.size, 0, 0, rfl, Nat.zero_le _, rfl, Lib.hid rfl, HO0, HA0, HB0⟩
  case round =>
    obtain ⟨i, g, cg, L, rfl, hik, rfl, HL, HO, HA, HB⟩ := hrel
    obtain ⟨W3, hW3⟩ : ∃ q, q = wr := ⟨_, rfl⟩
    rw [← hW3] at HO HA HB ⊢
    clear hW3
    by_cases hlt : i < k
    · have hi63 : IntKind.i64.wrap ((i : Int) + 1) = (i : Int) + 1 := IntWalk.i64_in _ (by omega)
      go_wp2_with fail
      go_loopw [6, 9] (CompJ w go co o i) (fun _ q _ => i - (intOf q).toNat)
      case atStart => exact ⟨0, g, cg, L, rfl, Nat.zero_le _, rfl, by rw [compIn_zero]; exact HL, by rw [compIn_zero]; exact HO, HA, HB⟩
      case round =>
        obtain ⟨j, g, cg, L, rfl, hji, rfl, HL, HO, HA, HB⟩ := hrel
        obtain ⟨W4, hW4⟩ : ∃ q, q = wr := ⟨_, rfl⟩
        rw [← hW4] at HO HA HB ⊢
        clear hW4
        by_cases hlj : j < i
        · have hj63 : IntKind.i64.wrap ((j : Int) + 1) = (j : Int) + 1 := IntWalk.i64_in _ (by omega)
          have hol := HORD.out.len
          have d1 := HA.out.at i (by omega)
          have d2 := HA.out.at j (by omega)
          have hgo := HA.out.lt.2
          have hne := beside HO.out HA.out
          have hsz := HB.out.size
          have hLL : L ≤ 100 := by
            have := HL.out
            have h28 := comp_len28 o (k := i) (by omega)
            rw [this]; simp [compIn]; omega
          have hL9 : (compIn o i j).length ≤ 999 := by rw [← HL.out]; omega
          rw [← getD_lt (0 : Int) () (by omega)] at d1 d2
          have hstep := compIn_succ o i j
          obtain ⟨X, hX⟩ : ∃ X, X = o.getD i 0 := ⟨_, rfl⟩
          obtain ⟨Y, hY⟩ : ∃ Y, Y = o.getD j 0 := ⟨_, rfl⟩
          rw [← hX] at d1 hstep
          rw [← hY] at d2 hstep
          have HST := Lib.hid hstep
          have hL1 : L + 1 = (compIn o i (j + 1)).length := by rw [hstep, List.length_append, ← HL.out]; rfl
          have HL1 := Lib.hid hL1
          have z1 : (0 : Int) ≤ (i : Int) := by omega
          have z2 : (i : Int) < (k : Int) := by omega
          have z3 : (0 : Int) ≤ (j : Int) := by omega
          have z4 : (j : Int) < (k : Int) := by omega
          clear hol hX hY hstep hL1
          go_wp2_with fail
          go_region_held3 (fun w' => w'.cell? ⟨go, i, none⟩ = some (.int .i64 X) ∧ w'.cell? ⟨go, j, none⟩ = some (.int .i64 Y) ∧ W4.grownBy w' (some g))
            ((refine keep8 d1 d2 hgo hgo hne hne ?_; (repeat (first | with_reducible exact World.grownBy.refl _ _ | with_reducible refine gb_drew ?_ | with_reducible refine gb_alloc ?_ _ | with_reducible refine World.grownBy.trans ?_ hg2))))
            ((first
              | (refine step_app (by rfl) (.tmp 30) (.tmp 40) 22 22 (by rfl) (by rfl) _ _ (by rfl) (by rfl) (owe_oneG (base := w.heap.size) (x := X) (y := Y) HL.out (by repeat (first | with_reducible exact HO.out | with_reducible refine OwE.drew ?_ | with_reducible refine OwE.alloc ?_ _)) (by repeat (first | with_reducible refine nb_newE _ _ _ _ (by first | rfl | simp) | with_reducible refine NB.drew ?_ | with_reducible refine NB.alloc ?_ _)) (by first | (simp; done) | (simp; omega) | omega) hL9) ?_
                 rintro v2 x2 ⟨g2, c2', rfl, ho2, hg2⟩)))
          all_goals
            have hG9 := Lib.hid (show W4.grownBy x2 (some g) by (repeat (first | with_reducible exact World.grownBy.refl _ _ | with_reducible refine gb_drew ?_ | with_reducible refine gb_alloc ?_ _ | with_reducible refine World.grownBy.trans ?_ hg2)))
            have hA4 := Lib.hid (HST.out ▸ ho2)
            clear ho2 hg2
            go_wp2_with fail
            have hlen : (compIn o i j).length = L := HL.out.symm
            refine ⟨⟨j + 1, g2, c2', L + 1, by go_num, by omega, by rw [hlen], HL1, hA4, Lib.hid (HA.out.beside hne hG9.out), Lib.hid (HB.out.grown hG9.out hsz (fun q hq => by cases hq; exact HO.out.lt.1))⟩, by simp [intOf]; omega⟩
        · have e : j = i := by omega
          subst e
          rw [compIn_full] at HL HO
          go_wp2_with fail
          go_roundw
          case rel => exact ⟨j + 1, g, cg, L, by go_num, by omega, rfl, HL, HO, HA, HB⟩
          case measure => simp [intOf]; omega
    · have e : i = k := by omega
      subst e
      have HORD := HORD.out
      obtain ⟨b1, p1, l1⟩ := least_ex (costB (compE o i)) i
      obtain ⟨b2, p2, l2⟩ := least_ex (costC (compE o i)) i
      obtain ⟨b3, p3, l3⟩ := least_ex (costS (compE o i)) i
      obtain ⟨f1, f2, f3⟩ := complete_law hk8 HORD l1 l2 l3
      have hbd := HO.out.bd
      have h28 := comp_len28 o hk8.2
      rw [← HL.out] at hbd h28
      have CL := Lib.hid (fun (W : World) (h : RdE W (some ⟨g, 0, none⟩) (compE o i)) => least_calls i hk8 (some ⟨g, 0, none⟩) L cg (compE o i) W HL.out (by rw [← HL.out]; omega) (comp_ok HORD) h hbd.1 hbd.2 l1 l2 l3)
      clear l1 l2 l3 HORD h28 HA HL
      have F2 := Lib.hid f2
      have F3 := Lib.hid f3
      clear f2 f3
      subst f1
      go_wp2_with fail
      refine (CL.out _ HO.out.rd).mono ?_
      rintro e w4 ⟨g4, rfl, hrd4, hB4⟩
      have HW := Lib.hid (HB.out.trans (hB4.mono HB.out.size))
      have e0 := hrd4.at2 0 (by simp)
      have e1 := hrd4.at2 1 (by simp)
      have e2 := hrd4.at2 2 (by simp)
      simp only [Nat.zero_add, List.getElem_cons_zero, List.getElem_cons_succ] at e0 e1 e2
      clear hB4 hrd4 HO HB CL
      have hi8 : i = 1 ∨ i = 2 ∨ i = 3 ∨ i = 4 ∨ i = 5 ∨ i = 6 ∨ i = 7 ∨ i = 8 := by omega
      have f2 := F2.out
      have f3 := F3.out
      clear F2 F3
      rcases hi8 with rfl | rfl | rfl | rfl | rfl | rfl | rfl | rfl <;> simp at f2 f3 <;> subst f2 f3
      all_goals go_wp2_with fail
      all_goals
        refine (lives_calls _).mono ?_
        rintro e w7 ⟨rfl, hB7⟩
        have HW := Lib.hid (HW.out.trans (hB7.mono HW.out.size))
        clear hB7
        go_wp2_with fail
        go_ret
        exact ⟨rfl, HW.out⟩
end Go.Proofs.Ytlidnhmagleehaa
