/- What is proved: graph, Nth, spans. No condition beyond those in each statement. -/
import Derived.Test.YthnhmfmlhlpggaaZI
import Derived.Test.YthnhmfmlhlpggaaS
namespace Go.Proofs.Ythnhmfmlhlpggaa
open Go.RowKit
set_option maxRecDepth 100000

/-- What graph returns. -/
def GraphR (w0 : World) (e : Ending) (w' : World) : Prop :=
  ∃ (k : Nat) (es : List (Int × Int)) (g c : Nat), (1 ≤ k ∧ k ≤ 8) ∧ es.length ≤ 24 ∧ IsG k es ∧ e = .returned (.tuple #[.int .i64 k, .slice (some ⟨g, 0, none⟩) es.length c]) ∧ OwE w' w0.heap.size g c es ∧ Below w0.heap.size w0 w'
def GraphI (w : World) (k : Nat) (m : Nat) (s q : Value) (wr : World) : Prop :=
  ∃ (es : List (Int × Int)) (g c : Nat), q = .int .i64 es.length ∧ es.length ≤ m ∧ es.length ≤ 24 ∧ s = .slice (some ⟨g, 0, none⟩) es.length c ∧ Hid (IsG k es) ∧ Hid (OwE wr w.heap.size g c es) ∧ Hid (Below w.heap.size w wr)

set_option maxHeartbeats 8000000 in
theorem graph_calls (x : Int) (A : Option Addr) (m c : Nat) (ps : List (Int × Int)) (w : World) (hx : 0 ≤ x ∧ x ≤ 255) (hm : m = ps.length) (hA : RdP w A ps) (hl : m ≤ c) (hc : c ≤ 9223372036854775807) (hps : ∀ p ∈ ps, (0 ≤ p.1 ∧ p.1 ≤ 255) ∧ (0 ≤ p.2 ∧ p.2 ≤ 255)) :
    Calls Try.prog 16 #[.int .u8 x, .slice A m c] w (GraphR w) := by
  have HM := Lib.hid hm
  have HA := Lib.hid hA
  have HPS := Lib.hid hps
  have hm63 : (m : Int) ≤ 9223372036854775807 := by omega
  obtain ⟨k, hk⟩ : ∃ k : Nat, x % 8 + 1 = (k : Int) := ⟨(x % 8 + 1).toNat, by omega⟩
  have hk1 : 1 ≤ k ∧ k ≤ 8 := by omega
  have hkz : ((k : Int) == 0) = false := by rw [beq_eq_false_iff_ne]; omega
  have htm : Int.tmod x 8 = (k : Int) - 1 := by rw [Int.tmod_eq_emod_of_nonneg hx.1]; omega
  clear hm hA hps
  go_enter Try.func16, Try.ntmps16
  go_wp2_with fail
  clear htm
  go_loopw [7, 8] (GraphI w k m) (fun _ q _ => m - (intOf q).toNat)
  case atStart => exact ⟨[], w.heap.size, 0, rfl, Nat.zero_le _, by simp, rfl, (fun e he => by cases he), owe_new w _ (Nat.le_refl _), (Below.refl _ _).alloc (Nat.le_refl _) _⟩
  case round =>
    obtain ⟨es, g, cg, rfl, hem, he24, rfl, HG, HO, HB⟩ := hrel
    obtain ⟨i, hi⟩ : ∃ i, i = es.length := ⟨_, rfl⟩
    rw [← hi] at hem he24 ⊢
    by_cases hcond : i < m ∧ i < 24 ∧ 1 < k
    · obtain ⟨h1, h2, h3⟩ := hcond
      have hil : i < ps.length := by have := HM.out; omega
      obtain ⟨b, o, rfl, hb, hc1, hc2⟩ := HA.out.at i hil
      have d1 := (HB.out.cell (p := ⟨b, o + i * 2, none⟩) hb).trans hc1
      have d2 := (HB.out.cell (p := ⟨b, o + i * 2 + 1, none⟩) hb).trans hc2
      have hp := HPS.out ps[i] (List.getElem_mem hil)
      obtain ⟨p1, hp1⟩ : ∃ z, z = ps[i].1 := ⟨_, rfl⟩
      obtain ⟨p2, hp2⟩ : ∃ z, z = ps[i].2 := ⟨_, rfl⟩
      rw [← hp1] at d1 hp
      rw [← hp2] at d2 hp
      obtain ⟨⟨q1, q2⟩, q3, q4⟩ := hp
      have a1 := Int.emod_nonneg p1 (by omega : (k : Int) ≠ 0)
      have a2 := Int.emod_lt_of_pos p1 (by omega : 0 < (k : Int))
      obtain ⟨a, ha⟩ : ∃ a : Int, p1 % k = a := ⟨_, rfl⟩
      rw [ha] at a1 a2
      have b1 := Int.emod_nonneg p2 (by omega : (k : Int) - 1 ≠ 0)
      have b2 := Int.emod_lt_of_pos p2 (by omega : 0 < (k : Int) - 1)
      obtain ⟨bb, hbb⟩ : ∃ a : Int, p2 % ((k : Int) - 1) = a := ⟨_, rfl⟩
      rw [hbb] at b1 b2
      have c1 := Int.emod_nonneg (a + 1 + bb) (by omega : (k : Int) ≠ 0)
      have c2 := Int.emod_lt_of_pos (a + 1 + bb) (by omega : 0 < (k : Int))
      obtain ⟨cc, hcc⟩ : ∃ z : Int, (a + 1 + bb) % k = z := ⟨_, rfl⟩
      have hne : a ≠ cc := by
        rw [← hcc]
        by_cases hlt : a + 1 + bb < k
        · rw [Int.emod_eq_of_lt (by omega) hlt]; omega
        · rw [show (a + 1 + bb) % k = (a + 1 + bb - k) % k by rw [Int.sub_emod_right], Int.emod_eq_of_lt (by omega) (by omega)]; omega
      rw [hcc] at c1 c2
      have t1 : Int.tmod p1 k = a := by rw [← ha]; exact Int.tmod_eq_emod_of_nonneg q1
      have t2 : Int.tmod p2 ((k : Int) - 1) = bb := by rw [← hbb]; exact Int.tmod_eq_emod_of_nonneg q3
      have t3 : Int.tmod (a + 1 + bb) k = cc := by rw [← hcc]; exact Int.tmod_eq_emod_of_nonneg (by omega)
      have hk1z : ((k : Int) - 1 == 0) = false := by rw [beq_eq_false_iff_ne]; omega
      obtain ⟨g', c', w', hrun, ho, hb'⟩ := owe_push a cc HO.out HB.out.size (by omega)
      rw [← hi] at hrun
      have HRUN := Lib.hid hrun
      have HO2 := Lib.hid ho
      have HB2 := Lib.hid (HB.out.trans hb')
      have HI := Lib.hid hi
      have HG2 : Hid (IsG k (es ++ [(a, cc)])) := by
        intro e he
        rcases List.mem_append.1 he with he | he
        · exact HG.out e he
        · have : e = (a, cc) := by simpa using he
          subst this
          exact ⟨⟨a1, a2⟩, ⟨c1, c2⟩, hne⟩
      clear hrun ho hb' hc1 hc2 hp1 hp2 hi
      go_wp2_with (at_builtin; refine wpList_app rfl (.tmp 37) (.tmp 54) 23 23 rfl rfl _ _ rfl rfl HRUN.out ?_)
      go_roundw
      case rel =>
        have hl2 : (es ++ [(a, cc)]).length = i + 1 := by rw [List.length_append, ← HI.out]; rfl
        exact ⟨es ++ [(a, cc)], g', c', by rw [hl2]; go_num, by omega, by omega, by rw [hl2], HG2, HO2, HB2⟩
      case measure => simp [intOf]; omega
    · have HI := Lib.hid hi
      clear hi
      obtain ⟨W2, hW2⟩ : ∃ q, q = wr := ⟨_, rfl⟩
      rw [← hW2] at HO HB ⊢
      clear hW2
      go_upto_region 3 with fail
      go_cut [26] (fun q wx => q = .bool false ∧ W2 = wx)
      case first =>
        by_cases h1 : i < m
        · by_cases h2 : i < 24
          · have h3 : decide ((k : Int) > 1) = false := decide_eq_false (by omega)
            have h3' : decide (1 < k) = false := decide_eq_false (by omega)
            clear hcond
            go_wp2_with fail
            go_meet
            exact ⟨rfl, rfl⟩
          · have h2' : decide ((i : Int) < 24) = false := decide_eq_false (by omega)
            clear hcond
            go_wp2_with fail
            go_meet
            exact ⟨rfl, rfl⟩
        · clear hcond
          go_wp2_with fail
          go_meet
          exact ⟨rfl, rfl⟩
      case rest =>
        obtain ⟨rfl, rfl⟩ := hcut
        go_wp2_with fail
        go_ret2
        exact ⟨k, es, g, cg, hk1, by have := HI.out; omega, HG.out, by rw [← HI.out]; rfl, HO.out, HB.out⟩
theorem idn_succ (n : Nat) : idn (n + 1) = idn n ++ [(n : Int)] := by simp [idn, List.range_succ]
theorem ord_ins {i t : Nat} {o : List Int} (h : IsOrd i o) : IsOrd (i + 1) (o.take t ++ [(i : Int)] ++ o.drop t) := by
  unfold IsOrd
  rw [idn_succ, List.append_assoc]
  have h1 : (o.take t ++ ([(i : Int)] ++ o.drop t)).Perm ((i : Int) :: (o.take t ++ o.drop t)) := List.perm_middle
  rw [List.take_append_drop] at h1
  exact h1.trans ((List.Perm.cons _ h).trans (List.perm_append_singleton _ _).symm)
/-- What order returns. -/
def OrderR (w : World) (n : Nat) (e : Ending) (w' : World) : Prop :=
  ∃ (o : List Int) (g c : Nat), IsOrd n o ∧ e = .returned (.slice (some ⟨g, 0, none⟩) n c) ∧ Arr w' w.heap.size g c o ∧ Below w.heap.size w w'
def OrderI (w : World) (n : Nat) (s q : Value) (wr : World) : Prop :=
  ∃ (i : Nat) (o : List Int) (g c : Nat), q = .int .i64 i ∧ i ≤ n ∧ s = .slice (some ⟨g, 0, none⟩) i c ∧ i ≤ c ∧ c ≤ 9223372036854775807 ∧ Hid (IsOrd i o) ∧ Hid (Arr wr w.heap.size g c o) ∧ Hid (Below w.heap.size w wr)
set_option maxHeartbeats 4000000 in
theorem nth_calls (n : Nat) (hn : n ≤ 20) (A : Option Addr) (m c : Nat) (bs : List Int) (w : World) (hm : m = bs.length) (hA : RdU w A bs) (hl : m ≤ c) (hc : c ≤ 9223372036854775807) (hbs : ∀ b ∈ bs, 0 ≤ b ∧ b ≤ 255) :
    Calls Try.prog 19 #[.int .i64 n, .slice A m c] w (OrderR w n) := by
  have HM := Lib.hid hm
  have HA := Lib.hid hA
  have HBS := Lib.hid hbs
  have hm63 : (m : Int) ≤ 9223372036854775807 := by omega
  clear hm hA hbs
  go_enter Try.func19, Try.ntmps19
  go_wp2_with fail
  go_loopw [5, 6, 7] (fun s q _ wr => OrderI w n s q wr) (fun _ q _ _ => n - (intOf q).toNat)
  case atStart => exact ⟨0, [], w.heap.size, 0, rfl, Nat.zero_le _, rfl, Nat.le_refl _, by omega, Lib.hid (by simp [IsOrd, idn]), Lib.hid (arr_newE w _ _ (Nat.le_refl _) rfl), Lib.hid ((Below.refl _ _).alloc (Nat.le_refl _) _)⟩
  case round =>
    obtain ⟨i, o, g, cg, rfl, hin, rfl, hic, hc2, HO, HR, HB⟩ := hrel
    by_cases hlt : i < n
    · obtain ⟨W2, hW2⟩ : ∃ q, q = wr := ⟨_, rfl⟩
      rw [← hW2] at HR HB ⊢
      clear hW2
      have hi63 : (i : Int) + 1 ≤ 100 := by omega
      have hz : ((i : Int) + 1 == 0) = false := by rw [beq_eq_false_iff_ne]; omega
      have hza : ¬ ((i : Int) + 1 = 0) := by omega
      have wi : IntKind.i64.wrap ((i : Int) + 1) = (i : Int) + 1 := IntWalk.i64_in _ (by omega)
      go_upto_if 17 with fail
      go_cut [7] from 9 to 37 (fun q wx => (∃ t : Nat, t ≤ i ∧ q = .int .i64 t) ∧ W2 = wx)
      case first =>
        by_cases him : i < m
        · obtain ⟨b, o', rfl, hb, hc1⟩ := HA.out.at i (by rw [← HM.out]; exact him)
          have d1 := (HB.out.cell (p := ⟨b, o' + i, none⟩) hb).trans hc1
          have hp := HBS.out bs[i] (List.getElem_mem _)
          obtain ⟨p1, hp1⟩ : ∃ z, z = bs[i]'(by rw [← HM.out]; exact him) := ⟨_, rfl⟩
          rw [← hp1] at d1 hp
          have a1 := Int.emod_nonneg p1 (by omega : (i : Int) + 1 ≠ 0)
          have a2 := Int.emod_lt_of_pos p1 (by omega : 0 < (i : Int) + 1)
          obtain ⟨t, ht⟩ : ∃ t : Nat, p1 % ((i : Int) + 1) = t := ⟨(p1 % ((i : Int) + 1)).toNat, by omega⟩
          rw [ht] at a1 a2
          have u1 : Int.tmod p1 ((i : Int) + 1) = t := by rw [← ht]; exact Int.tmod_eq_emod_of_nonneg hp.1
          obtain ⟨q1, q2⟩ := hp
          clear hc1 hp1 ht
          go_wp2_with fail
          go_meet
          exact ⟨⟨t, by omega, rfl⟩, rfl⟩
        · go_wp2_with fail
          go_meet
          exact ⟨⟨0, Nat.zero_le _, rfl⟩, rfl⟩
      case rest =>
        obtain ⟨⟨t, ht, rfl⟩, rfl⟩ := hcut
        have hol := HO.out.len
        have z1 : (0 : Int) ≤ (t : Int) := by omega
        have z2 : (t : Int) ≤ (i : Int) := by omega
        have z3 : (t : Int) ≤ (cg : Int) := by omega
        have z4 : (i : Int) ≤ (cg : Int) := by omega
        have z5 : t ≤ cg := by omega
        have z6 : (cg : Int) ≤ 9223372036854775807 := by omega
        go_wp2_with fail
        go_region_held3 (fun w' => Below W2.heap.size W2 w')
          ((repeat (first | with_reducible exact Below.refl _ _ | with_reducible refine Below.drew ?_ | with_reducible refine Below.alloc ?_ (by first | (simp; done) | (simp; omega) | omega) _ | with_reducible refine Below.trans ?_ hb4 | with_reducible refine Below.trans ?_ hb3 | with_reducible refine Below.trans ?_ hb2)))
          ((first
            | (refine step_app (by rfl) (.tmp 26) (.tmp 29) 27 27 (by rfl) (by rfl) _ _ (by rfl) (by rfl) (owi_app (base := W2.heap.size) (xs := []) (ys := o.take t) (by rfl) (by simp; omega) (by repeat (first | with_reducible refine arr_newE _ _ _ (by first | (simp; done) | (simp; omega) | omega) (by first | rfl | simp) | with_reducible refine Arr.drew ?_ | with_reducible refine Arr.alloc ?_ _)) (take_cells HR.out (by (repeat (first | with_reducible exact Below.refl _ _ | with_reducible refine Below.drew ?_ | with_reducible refine Below.alloc ?_ (by first | (simp; done) | (simp; omega) | omega) _ | with_reducible refine Below.trans ?_ hb4 | with_reducible refine Below.trans ?_ hb3 | with_reducible refine Below.trans ?_ hb2))) t) (by first | (simp; done) | (simp; omega) | omega) (by simp; omega)) ?_
               rintro v2 w2 ⟨g2, c2, rfl, ho2, hb2, hn2⟩
               have hs2 : W2.heap.size ≤ w2.heap.size := by have := hb2.size; (try simp at this); omega)
            | (refine step_app (by rfl) (.tmp 30) (.tmp 32) 27 27 (by rfl) (by rfl) _ _ (by rfl) (by rfl) (owi_app (base := W2.heap.size) (xs := [] ++ o.take t) (ys := [(i : Int)]) (by first | rfl | (simp; omega)) (by rfl) (by repeat (first | with_reducible exact ho2 | with_reducible refine Arr.drew ?_ | with_reducible refine Arr.alloc ?_ _)) (ni_cells (by
                first
                | (repeat (first | with_reducible refine ni_newE _ _ _ (by first | rfl | simp) | with_reducible refine NI.drew ?_ | with_reducible refine NI.alloc ?_ _))
                  done
                | (repeat (first | with_reducible refine ni_newE _ _ _ (by first | rfl | simp) | with_reducible refine NI.drew ?_ | with_reducible refine NI.alloc ?_ _ | with_reducible refine hn2 _ _ (by omega) ?_)))) (by first | (simp; done) | (simp; omega) | omega) (by simp; omega)) ?_
               rintro v3 w3 ⟨g3, c3, rfl, ho3, hb3, hn3⟩
               have hs3 : W2.heap.size ≤ w3.heap.size := by have := hb3.size; (try simp at this); omega)
            | (refine step_app (by rfl) (.tmp 33) (.tmp 36) 27 27 (by rfl) (by rfl) _ _ (by rfl) (by rfl) (owi_tail (base := W2.heap.size) (xs := [] ++ o.take t ++ [(i : Int)]) (o := o) (t := t) (by first | rfl | (simp; omega)) (by omega) (by repeat (first | with_reducible exact ho3 | with_reducible refine Arr.drew ?_ | with_reducible refine Arr.alloc ?_ _)) HR.out (by (repeat (first | with_reducible exact Below.refl _ _ | with_reducible refine Below.drew ?_ | with_reducible refine Below.alloc ?_ (by first | (simp; done) | (simp; omega) | omega) _ | with_reducible refine Below.trans ?_ hb3 | with_reducible refine Below.trans ?_ hb2))) (by first | (simp; done) | (simp; omega) | omega) (by simp; omega)) ?_
               rintro v4 w4 ⟨g4, c4, rfl, ho4, hb4, hn4⟩
               have hs4 : W2.heap.size ≤ w4.heap.size := by have := hb4.size; (try simp at this); omega)))
        all_goals
          have hB9 := Lib.hid (show Below W2.heap.size W2 w4 by (repeat (first | with_reducible exact Below.refl _ _ | with_reducible refine Below.drew ?_ | with_reducible refine Below.alloc ?_ (by first | (simp; done) | (simp; omega) | omega) _ | with_reducible refine Below.trans ?_ hb4 | with_reducible refine Below.trans ?_ hb3 | with_reducible refine Below.trans ?_ hb2)))
          have hA4 := Lib.hid ho4
          have hb9 := ho4.bd
          clear ho4 hb4 hn4 ho3 hb3 hn3 ho2 hb2 hn2
          go_wp2_with fail
          go_roundw
          case rel => exact ⟨i + 1, _, g4, c4, by go_num, by omega, by (congr 1; omega), by simp at hb9; omega, hb9.2, by simpa using Lib.hid (ord_ins HO.out), Lib.hid (hA4.out.weaken HB.out.size), Lib.hid (HB.out.trans (hB9.out.mono HB.out.size))⟩
          case measure => simp [intOf]; omega
    · go_wp2_with fail
      go_ret
      have : i = n := by omega
      subst this
      exact ⟨o, g, cg, HO.out, rfl, HR.out, HB.out⟩

/-- A row of spans of the call's own. -/
def OwP (w : World) (base : Nat) (v : Value) (es : List (Int × Int)) : Prop := w.ownsRow base 60 2 v es.length (pairC es)
theorem OwP.sl {w : World} {base : Nat} {v : Value} {es : List (Int × Int)} (h : OwP w base v es) : ∃ A c, v = .slice A es.length c ∧ es.length ≤ c ∧ c ≤ 9223372036854775807 ∧ RdE w A es := by
  rcases h.2 with ⟨h1, h2⟩ | ⟨g, cap, cur, e, hb, hg, hnc, hcm, hr⟩
  · have he : es = [] := List.length_eq_zero_iff.1 h2
    subst he
    exact ⟨none, 0, h1, Nat.le_refl _, by omega, fun hne => absurd rfl hne⟩
  · subst e
    have hr2 : w.ownsRow base 60 2 (.slice (some ⟨g, 0, none⟩) es.length cap) es.length (pairC es) := h
    refine ⟨some ⟨g, 0, none⟩, cap, rfl, hnc, by simpa [maxLen] using hcm, fun _ => ⟨g, 0, rfl, (World.ownsRow.lt hr2 g rfl).2, fun i hi => ?_⟩⟩
    obtain ⟨h1, h2⟩ := pairC_get es i hi
    rw [Nat.zero_add]
    exact ⟨by rw [World.ownsRow.cellAt hr2 (i * 2) (by omega)]; exact h1, by rw [World.ownsRow.cellAt hr2 (i * 2 + 1) (by omega)]; exact h2⟩
theorem info60 : (Try.prog.info? 60).map (fun i => (i.zero, i.size, i.bytes)) = some (some (.agg #[.int .i64 0, .int .i64 0]), 2, 16) := by kernel_rfl
theorem owp_new (w : World) (base g : Nat) (hb : base ≤ w.heap.size) (hg : w.heap.size = g) : OwP (w.alloc (.cells #[] 60)) base (.slice (some ⟨g, 0, none⟩) 0 0) [] :=
  hg ▸ ⟨rfl, .inr ⟨w.heap.size, 0, #[], rfl, hb, World.alloc_heap_new w _, Nat.le_refl _, by simp, rfl, rfl⟩⟩
theorem owp_nil (w : World) (base : Nat) : OwP w base (.slice none 0 0) [] := ⟨rfl, .inl ⟨rfl, rfl⟩⟩
theorem OwP.below {w w' : World} {base : Nat} {v : Value} {es : List (Int × Int)} (h : OwP w base v es) (hb : Below w.heap.size w w') : OwP w' base v es :=
  World.ownsRow.kept (row := none) h ⟨hb.os, hb.tape, hb.output, hb.size, fun k hk _ => hb.block k hk⟩ (by
    cases hv : v.ownBlock with
    | none => exact .inl rfl
    | some k => exact .inr (by simp))
theorem OwP.weaken {w : World} {base base' : Nat} {v : Value} {xs : List (Int × Int)} (h : OwP w base v xs) (hb : base' ≤ base) : OwP w base' v xs := by
  refine ⟨h.1, ?_⟩
  rcases h.2 with h | ⟨g', cap, cur, e', hb', hg, h⟩
  · exact .inl h
  · exact .inr ⟨g', cap, cur, e', Nat.le_trans hb hb', hg, h⟩
theorem owp_push {w : World} {base : Nat} {v : Value} {es : List (Int × Int)} (x y : Int) (h : OwP w base v es) (hb : base ≤ w.heap.size) (hl : es.length ≤ 1000) :
    ∃ A n c w', (Builtin.append_ #[53, 53] 53 #[v, .slice (some ⟨w.heap.size, 0, none⟩) 1 1]).run Try.prog (w.alloc (.cells #[.int .i64 x, .int .i64 y] 60)) = .ok (.slice (some A) n c) w' ∧ OwP w' base (.slice (some A) n c) (es ++ [(x, y)]) ∧ Below base w w' := by
  obtain ⟨i0, hi, hz0, hz1, hz2⟩ := info_parts info60
  have hn2 : ∀ j u, ([.int .i64 x, .int .i64 y] : List Value)[j]? = some u → (w.alloc (.cells #[.int .i64 x, .int .i64 y] 60)).cell? ((⟨w.heap.size, 0, none⟩ : Addr).add j) = some u := by
    intro j u hj
    rw [addr_add, Nat.zero_add, World.cell?_alloc_at _ _ _ _ rfl]
    simpa using hj
  obtain ⟨v', w', hrun, r1, r2, r3⟩ := run_append_own (P := Try.prog) (w.alloc (.cells #[.int .i64 x, .int .i64 y] 60)) base 53 53 60 i0 (.agg #[.int .i64 0, .int .i64 0]) 2 16 Try.underlying53 hi hz0 hz1 hz2 rfl (by decide) _ es.length (pairC es) (World.ownsRow.alloc h _) ⟨w.heap.size, 0, none⟩ 1 1 [.int .i64 x, .int .i64 y] rfl hn2 (by simp [Value.oneCell']) (by simp [maxLen]; omega) (by omega) (by simp; omega)
  have hB : Below base w w' := ((Below.refl _ w).alloc hb _).grown r2 (by simp; omega) (fun k hk => (World.ownsRow.lt h k hk).1)
  have ho : OwP w' base v' (es ++ [(x, y)]) := by
    unfold OwP
    rw [List.length_append, pairC_snoc]
    exact r1
  rcases ho.2 with ⟨_, h0⟩ | ⟨g, cap, cur, rfl, _⟩
  · simp at h0
  · exact ⟨_, _, _, w', hrun, ho, hB⟩

/-- The spans of edges over places. -/
def spanF (at_ : Int → Int) (es : List (Int × Int)) : List (Int × Int) := es.map fun e => (min (at_ e.1) (at_ e.2), max (at_ e.1) (at_ e.2))
theorem span_snoc (at_ : Int → Int) {es : List (Int × Int)} {k : Nat} (hk : k < es.length) : spanF at_ (es.take (k + 1)) = spanF at_ (es.take k) ++ [(min (at_ es[k].1) (at_ es[k].2), max (at_ es[k].1) (at_ es[k].2))] := by
  unfold spanF
  rw [List.take_succ_eq_append_getElem hk, List.map_append]; rfl
/-- What the map holds after k places. -/
def atK (o : List Int) (k : Nat) (x : Int) : Int := if x ∈ o.take k then ((o.idxOf x : Nat) : Int) else 0
theorem atK_succ {o : List Int} (hnd : o.Nodup) {k : Nat} (hk : k < o.length) : (fun y => if y = o[k] then (k : Int) else atK o k y) = atK o (k + 1) := by
  funext y
  unfold atK
  have hmem : y ∈ o.take (k + 1) ↔ y ∈ o.take k ∨ y = o[k] := by rw [List.take_succ_eq_append_getElem hk, List.mem_append, List.mem_singleton]
  by_cases e : y = o[k]
  · rw [if_pos e, if_pos (hmem.2 (.inr e)), e, List.Nodup.idxOf_getElem hnd]
  · rw [if_neg e]
    by_cases h : y ∈ o.take k
    · rw [if_pos h, if_pos (hmem.2 (.inl h))]
    · rw [if_neg h, if_neg (fun q => (hmem.1 q).elim h e)]

theorem mkMap96' (w : World) : (Instr.makeMap 96 none).run Try.prog w = .ok (.map (some w.heap.size)) (w.alloc (.map #[] 0)) := by kernel_rfl
theorem small_wf' {x : Int} (h : 0 ≤ x ∧ x ≤ 1000000) : (Lit.int .i64 x).wf = true := by
  simp [Lit.wf, IntKind.min, IntKind.max, IntKind.signed, IntKind.bits]; omega
theorem grown_below' {w w' : World} {m N : Nat} (h : w.grownBy w' (some m)) (hm : N ≤ m) (hN : N ≤ w.heap.size) : Below N w w' :=
  ⟨h.os, h.tape, h.output, h.size, fun k hk => h.block k (by omega) (by simp; omega)⟩
theorem Mi.block {w w' : World} {m n : Nat} {f : Int → Int} (h : Mi w m n f) (e : w'.heap[m]? = w.heap[m]?) : Mi w' m n f := by
  obtain ⟨D, ⟨es, clock, hb, F, hs, hD⟩, h1, h2⟩ := h
  exact ⟨D, ⟨es, clock, e.trans hb, F, hs, hD⟩, h1, h2⟩
def SpI (w : World) (o : List Int) (v : Value) (wr : World) : Prop := ∃ k : Nat, v = .int .i64 k ∧ k ≤ o.length ∧ Hid (Mi wr w.heap.size k (atK o k)) ∧ Hid (Below w.heap.size w wr)
def SpJ (w : World) (at_ : Int → Int) (es : List (Int × Int)) (mn ne : Nat) (v u : Value) (wr : World) : Prop :=
  ∃ k : Nat, u = .int .i64 k ∧ k ≤ ne ∧ Hid (Mi wr w.heap.size mn at_) ∧ Hid (OwP wr (w.heap.size + 1) v (spanF at_ (es.take k))) ∧ Hid (Below w.heap.size w wr)

set_option maxHeartbeats 4000000 in
theorem spans_calls (n : Nat) (B : Option Addr) (ne ce : Nat) (es : List (Int × Int)) (A : Option Addr) (m c : Nat) (o : List Int) (w : World) (hne : ne = es.length) (hB : RdE w B es) (_hle : ne ≤ ce) (_hce : ce ≤ 9223372036854775807) (hn40 : ne ≤ 40)
    (hm : m = o.length) (hA : Rd w A o) (_hl : m ≤ c) (_hc : c ≤ 9223372036854775807) (ho : IsOrd n o) (hn : n ≤ 8) (hg : IsG n es) :
    Calls Try.prog 20 #[.slice B ne ce, .slice A m c] w fun e w' => ∃ v, e = .returned v ∧ OwP w' w.heap.size v (spanF (atK o o.length) es) ∧ Below w.heap.size w w' := by
  have HNE := Lib.hid hne
  have HB := Lib.hid hB
  have HM := Lib.hid hm
  have HA := Lib.hid hA
  have HO := Lib.hid ho
  have HG := Lib.hid hg
  have HN1 := Lib.hid (mi_new w)
  have hm8 : m ≤ 8 := by have := ho.len; omega
  have mm1 := mkMap96' w
  clear hne hB hm hA ho hg
  go_enter Try.func20, Try.ntmps20
  go_wp2_with fail
  go_loopw [6] (SpI w o) (fun v _ => m - (intOf v).toNat)
  case atStart =>
    refine ⟨0, rfl, Nat.zero_le _, ?_, (Below.refl _ _).alloc (Nat.le_refl _) _⟩
    have e : atK o 0 = fun _ => 0 := by funext x; unfold atK; rw [if_neg (by simp)]
    rw [e]
    exact HN1.out
  case round =>
    obtain ⟨k, rfl, hk, HP, HBE⟩ := hrel
    by_cases hlt : k < m
    · have hkl : k < o.length := by have := HM.out; omega
      obtain ⟨b, of, rfl, hb, hcell⟩ := (HA.out.below HBE.out).at k hkl
      have hmem := HO.out.mem.1 (List.getElem_mem hkl)
      have HAT := Lib.hid (atK_succ HO.out.nodup hkl)
      obtain ⟨x, hx⟩ : ∃ x, x = o[k] := ⟨_, rfl⟩
      rw [← hx] at hcell hmem HAT
      obtain ⟨W2, u1, p2, g1⟩ := mi_update HP.out (by omega) x (k : Int) (small_wf' (by omega)) (small_wf' (by omega))
      have HP2 : Hid (Mi W2 w.heap.size (k + 1) (atK o (k + 1))) := by rw [← HAT.out]; exact p2
      have HB2 := Lib.hid (HBE.out.trans (grown_below' g1 (Nat.le_refl _) HBE.out.size))
      have HU1 := Lib.hid u1
      clear u1 p2 g1 hx hb
      go_wp2_with (at_mapUpdate; refine wpList_upd rfl (.tmp 18) (.tmp 22) (.tmp 23) 96 (.inl rfl) _ _ _ rfl rfl rfl HU1.out ?_)
      go_roundw
      case rel => exact ⟨k + 1, by go_num, by have := HM.out; omega, HP2.out, HB2.out⟩
      case measure => simp [intOf]; omega
    · have hke : k = o.length := by have := HM.out; omega
      have HP2 : Hid (Mi wr w.heap.size o.length (atK o o.length)) := by rw [← hke]; exact HP.out
      have hsz : w.heap.size + 1 ≤ wr.heap.size := HP.out.lt
      have HON := Lib.hid (owp_new wr (w.heap.size + 1) wr.heap.size hsz rfl)
      have HB1 := Lib.hid ((HBE.out.alloc HBE.out.size (.cells #[] 60)))
      have HP3 := Lib.hid (HP2.out.below ((Below.refl _ wr).alloc (Nat.le_refl _) (.cells #[] 60)))
      clear hke
      go_wp2_with fail
      go_loopw [7, 8] (SpJ w (atK o o.length) es o.length ne) (fun _ v _ => ne - (intOf v).toNat)
      case atStart => exact ⟨0, rfl, Nat.zero_le _, HP3.out, HON.out, HB1.out⟩
      case round =>
        obtain ⟨j, rfl, hj, HMI, HOP, HBJ⟩ := hrel
        obtain ⟨P, pc, rfl, hpc1, hpc2, -⟩ := HOP.out.sl
        have HOP1 := Lib.hid HOP.out
        by_cases hlt2 : j < ne
        · have hjl : j < es.length := by have := HNE.out; omega
          obtain ⟨b, of, rfl, hb, hdx, hdy⟩ := (HB.out.below HBJ.out).at j hjl
          have hin := HG.out _ (List.getElem_mem hjl)
          have HSN := Lib.hid (span_snoc (atK o o.length) hjl)
          obtain ⟨x, hx⟩ : ∃ x, x = es[j].1 := ⟨_, rfl⟩
          obtain ⟨y, hy⟩ : ∃ x, x = es[j].2 := ⟨_, rfl⟩
          rw [← hx, ← hy] at hin HSN
          rw [← hx] at hdx
          rw [← hy] at hdy
          clear hx hy hb
          have hl1 : ∀ nn, (Instr.lookup 96 (.map (some w.heap.size)) (.int .i64 x) false).run Try.prog (wr.drewN nn) = .ok (.int .i64 (atK o o.length x)) (wr.drewN nn) := fun nn => mi_lookup (w := wr.drewN nn) HMI.out x (small_wf' (by omega))
          have hl2 : ∀ nn, (Instr.lookup 96 (.map (some w.heap.size)) (.int .i64 y) false).run Try.prog (wr.drewN nn) = .ok (.int .i64 (atK o o.length y)) (wr.drewN nn) := fun nn => mi_lookup (w := wr.drewN nn) HMI.out y (small_wf' (by omega))
          have b1 : 0 ≤ atK o o.length x ∧ atK o o.length x ≤ 1000 := by unfold atK; have := List.idxOf_le_length (a := x) (l := o); have := HM.out; split <;> omega
          have b2 : 0 ≤ atK o o.length y ∧ atK o o.length y ≤ 1000 := by unfold atK; have := List.idxOf_le_length (a := y) (l := o); have := HM.out; split <;> omega
          generalize atK o o.length x = p at hl1 b1 HSN
          generalize atK o o.length y = q at hl2 b2 HSN
          have i0 : (0 : Int) ≤ (j : Int) := by omega
          have i1 : (j : Int) < (ne : Int) := by omega
          go_wp2_with fail
          go_quiet (fail)
          obtain ⟨W2, hW2⟩ : ∃ W2, W2 = wr.drewN nq := ⟨_, rfl⟩
          have HM2 : Hid (Mi W2 w.heap.size o.length (atK o o.length)) := by rw [hW2]; exact HMI.out
          have HO2 : Hid (OwP W2 (w.heap.size + 1) (.slice P (spanF (atK o o.length) (es.take j)).length pc) (spanF (atK o o.length) (es.take j))) := by rw [hW2]; exact HOP1.out
          have HB2 : Hid (Below w.heap.size w W2) := by rw [hW2]; exact below_drewN HBJ.out _
          rw [← hW2]
          have hlen : (spanF (atK o o.length) (es.take j)).length ≤ 1000 := by unfold spanF; rw [List.length_map, List.length_take]; omega
          clear hW2 hl1 hl2 hdx hdy
          have hsz2 : w.heap.size + 1 ≤ W2.heap.size := HM2.out.lt
          obtain ⟨A3, n3, c3, w3, hrun, ho3, hb3⟩ := owp_push (min p q) (max p q) HO2.out hsz2 hlen
          have HM3 := Lib.hid (HM2.out.block (hb3.block w.heap.size (Nat.lt_succ_self _)))
          rw [← HSN.out] at ho3
          have H3 := Lib.hid (And.intro ho3 (HB2.out.trans (hb3.mono (by omega))))
          obtain ⟨b10, b11⟩ := b1
          obtain ⟨b20, b21⟩ := b2
          rcases Int.lt_trichotomy p q with h | h | h
          · rw [show min p q = p by omega, show max p q = q by omega] at hrun
            have HRUN := Lib.hid hrun
            clear hrun ho3 hb3
            go_wp2_with (at_builtin; refine wpList_app rfl (.tmp 45) (.tmp 53) 53 53 rfl rfl _ _ rfl rfl HRUN.out ?_)
            go_roundw
            case rel => exact ⟨j + 1, by go_num, by omega, HM3.out, H3.out.1, H3.out.2⟩
            case measure => simp [intOf]; omega
          · subst h
            rw [show min p p = p by omega, show max p p = p by omega] at hrun
            have HRUN := Lib.hid hrun
            clear hrun ho3 hb3
            go_wp2_with (at_builtin; refine wpList_app rfl (.tmp 45) (.tmp 53) 53 53 rfl rfl _ _ rfl rfl HRUN.out ?_)
            go_roundw
            case rel => exact ⟨j + 1, by go_num, by omega, HM3.out, H3.out.1, H3.out.2⟩
            case measure => simp [intOf]; omega
          · rw [show min p q = q by omega, show max p q = p by omega] at hrun
            have HRUN := Lib.hid hrun
            clear hrun ho3 hb3
            go_wp2_with (at_builtin; refine wpList_app rfl (.tmp 45) (.tmp 53) 53 53 rfl rfl _ _ rfl rfl HRUN.out ?_)
            go_roundw
            case rel => exact ⟨j + 1, by go_num, by omega, HM3.out, H3.out.1, H3.out.2⟩
            case measure => simp [intOf]; omega
        · have hje : j = es.length := by have := HNE.out; omega
          have HE2 : Hid (OwP wr w.heap.size (.slice P (spanF (atK o o.length) (es.take j)).length pc) (spanF (atK o o.length) es)) := by
            have := HOP1.out.weaken (base' := w.heap.size) (by omega)
            rw [hje, List.take_length] at this
            rw [hje, List.take_length]
            exact this
          clear hje
          go_wp2_with fail
          go_ret
          exact ⟨_, rfl, HE2.out, HBJ.out⟩
end Go.Proofs.Ythnhmfmlhlpggaa
