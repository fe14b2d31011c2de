/- What is proved: rows of bytes, appends to rows of integers in regions of open order, order. No condition beyond those in each statement. -/
import Derived.Test.YtlidnhmagleehaaU
namespace Go.Proofs.Ytlidnhmagleehaa
open Go.RowKit

/-- A row of bytes. -/
def RdU (w : World) (A : Option Addr) (bs : List Int) : Prop :=
  bs ≠ [] → ∃ b o, A = some ⟨b, o, none⟩ ∧ b < w.heap.size ∧ ∀ i (hi : i < bs.length), w.cell? ⟨b, o + i, none⟩ = some (.int .u8 bs[i])
theorem RdU.below {w w' : World} {A : Option Addr} {xs : List Int} (h : RdU w A xs) (hb : Below w.heap.size w w') : RdU w' A xs := fun hne => by
  obtain ⟨b, o, e, hlt, hc⟩ := h hne
  exact ⟨b, o, e, Nat.lt_of_lt_of_le hlt hb.size, fun i hi => (hb.cell (p := ⟨b, o + i, none⟩) hlt).trans (hc i hi)⟩
theorem RdU.at {w : World} {A : Option Addr} {xs : List Int} (h : RdU w A xs) (i : Nat) (hi : i < xs.length) :
    ∃ b o, A = some ⟨b, o, none⟩ ∧ b < w.heap.size ∧ w.cell? ⟨b, o + i, none⟩ = some (.int .u8 xs[i]) := by
  obtain ⟨b, o, e, hlt, hc⟩ := h (fun e => by subst e; simp at hi)
  exact ⟨b, o, e, hlt, hc i hi⟩

theorem Arr.drew {w : World} {base g c : Nat} {xs : List Int} (h : Arr w base g c xs) : Arr w.drew base g c xs := h
theorem Arr.alloc {w : World} {base g c : Nat} {xs : List Int} (h : Arr w base g c xs) (o : Obj) : Arr (w.alloc o) base g c xs := World.ownsRow.alloc h _
theorem arr_newE (w : World) (base g : Nat) (hb : base ≤ w.heap.size) (hg : w.heap.size = g) : Arr (w.alloc (.cells #[] 3)) base g 0 [] := hg ▸ ow_new w base hb
/-- One integer in a block of its own. -/
def NI (w : World) (b : Nat) (x : Int) : Prop := b < w.heap.size ∧ w.cell? ⟨b, 0, none⟩ = some (.int .i64 x)
theorem ni_newE (w : World) (b : Nat) (x : Int) (hg : w.heap.size = b) : NI (w.alloc (.cells #[.int .i64 x] 3)) b x := hg ▸ ⟨by simp, World.cell?_alloc_at _ _ _ _ rfl⟩
theorem NI.drew {w : World} {b : Nat} {x : Int} (h : NI w b x) : NI w.drew b x := h
theorem NI.alloc {w : World} {b : Nat} {x : Int} (h : NI w b x) (o : Obj) : NI (w.alloc o) b x :=
  have hb : Below w.heap.size w (w.alloc o) := (Below.refl _ w).alloc (Nat.le_refl _) o
  ⟨Nat.lt_of_lt_of_le h.1 hb.size, (hb.cell (p := ⟨b, 0, none⟩) h.1).trans h.2⟩
/-- What an append leaves. -/
def AppI (W : World) (base g : Nat) (xs : List Int) (v' : Value) (w' : World) : Prop :=
  ∃ g' c', v' = .slice (some ⟨g', 0, none⟩) xs.length c' ∧ Arr w' base g' c' xs ∧ Below base W w' ∧ ∀ b x, b ≠ g → NI W b x → NI w' b x
theorem owi_app {w : World} {base g c n m : Nat} {xs ys : List Int} {a : Addr} {cf : Nat} (hn : n = xs.length) (hm : m = ys.length) (h : Arr w base g c xs) (hF : ∀ j (hj : j < ys.length), w.cell? (a.add j) = some (.int .i64 ys[j])) (hb : base ≤ w.heap.size) (hl : xs.length + ys.length ≤ 1000) :
    ∃ v' w', (Builtin.append_ #[27, 27] 27 #[.slice (some ⟨g, 0, none⟩) n c, .slice (some a) m cf]).run Try.prog w = .ok v' w' ∧ AppI w base g (xs ++ ys) v' w' := by
  subst hn hm
  obtain ⟨i0, hi, hz0, hz1, hz2⟩ := info_parts info3'
  have hn2 : ∀ j u, (ys.map (Value.int .i64))[j]? = some u → w.cell? (a.add j) = some u := by
    intro j u hj
    obtain ⟨hj1, hj2⟩ := List.getElem?_eq_some_iff.1 hj
    have hjm : j < ys.length := by simpa using hj1
    rw [hF j hjm, ← hj2, List.getElem_map]
  have hone : ∀ u ∈ ys.map (Value.int .i64), u.oneCell' = true := by
    intro u hu
    obtain ⟨e, _, rfl⟩ := List.mem_map.1 hu
    rfl
  obtain ⟨v', w', hrun, r1, r2, r3⟩ := run_append_own (P := Try.prog) w base 27 27 3 i0 (.int .i64 0) 1 8 Try.underlying27 hi hz0 hz1 hz2 rfl (by decide) _ xs.length (xs.map (Value.int .i64)) h a ys.length cf (ys.map (Value.int .i64)) (by simp) hn2 hone (by simp [maxLen]; omega) (by omega) hb
  have hB : Below base w w' := (Below.refl _ w).grown r2 hb (fun k hk => (World.ownsRow.lt h k hk).1)
  refine ⟨v', w', hrun, ?_⟩
  rw [← List.map_append, ← List.length_append] at r1
  rcases r1.2 with ⟨h', h''⟩ | ⟨g', cap, cur, e, hr⟩
  · exact absurd (r3.1 h').1 (by simp)
  · subst e
    refine ⟨g', cap, rfl, r1, hB, fun b x hne hn => ?_⟩
    have f (o : Nat) : w'.cell? ⟨b, o, none⟩ = w.cell? ⟨b, o, none⟩ := World.grownBy.cell_far r2 ⟨b, o, none⟩ hn.1 (by simpa [Value.ownBlock] using hne)
    have c0 := (f 0).trans hn.2
    exact ⟨World.block_lt_of_cell? _ _ c0, c0⟩

theorem take_cells {w W : World} {base g c : Nat} {o : List Int} (h : Arr W base g c o) (hb : Below W.heap.size W w) (t : Nat) : ∀ j (hj : j < (o.take t).length), w.cell? ((⟨g, 0, none⟩ : Addr).add j) = some (.int .i64 (o.take t)[j]) := fun j hj => by
  have hj' : j < o.length := by simp at hj; omega
  rw [addr_add, Nat.zero_add, hb.cell (p := ⟨g, j, none⟩) h.lt.2, h.at j hj', List.getElem_take]
theorem drop_cells {w W : World} {base g c : Nat} {o : List Int} (h : Arr W base g c o) (hb : Below W.heap.size W w) (t : Nat) : ∀ j (hj : j < (o.drop t).length), w.cell? ((⟨g, t, none⟩ : Addr).add j) = some (.int .i64 (o.drop t)[j]) := fun j hj => by
  have hj' : t + j < o.length := by simp at hj; omega
  rw [addr_add, hb.cell (p := ⟨g, t + j, none⟩) h.lt.2, h.at (t + j) hj', List.getElem_drop]
theorem ni_cells {w : World} {b : Nat} {x : Int} (h : NI w b x) : ∀ j (hj : j < [x].length), w.cell? ((⟨b, 0, none⟩ : Addr).add j) = some (.int .i64 [x][j]) := fun j hj => by
  have e : j = 0 := by simp at hj; omega
  subst e
  rw [addr_add]
  exact h.2
theorem owi_tail {w W : World} {base g c n m b c' t base' : Nat} {xs o : List Int} {cf : Nat} (hn : n = xs.length) (hm : m = o.length - t) (h : Arr w base g c xs) (ho : Arr W base' b c' o) (hB : Below W.heap.size W w) (hb : base ≤ w.heap.size) (hl : xs.length + o.length ≤ 1000) :
    ∃ v' w', (Builtin.append_ #[27, 27] 27 #[.slice (some ⟨g, 0, none⟩) n c, .slice (if c' = t then some ⟨b, 0, none⟩ else some ⟨b, t, none⟩) m cf]).run Try.prog w = .ok v' w' ∧ AppI w base g (xs ++ o.drop t) v' w' := by
  by_cases e : c' = t
  · rw [if_pos e]
    have hoc := ho.bd
    have hd : o.drop t = [] := List.drop_eq_nil_of_le (by omega)
    exact owi_app hn (by rw [hd]; simp; omega) h (by rw [hd]; intro j hj; simp at hj) hb (by rw [hd]; simp; omega)
  · rw [if_neg e]
    exact owi_app hn (by simp; omega) h (drop_cells ho hB t) hb (by simp; omega)
theorem idn_succ (n : Nat) : idn (n + 1) = idn n ++ [(n : Int)] := by simp [idn, List.range_succ]
theorem ord_ins {i t : Nat} {o : List Int} (h : IsOrd i o) : IsOrd (i + 1) (o.take t ++ [(i : Int)] ++ o.drop t) := by
  unfold IsOrd
  rw [idn_succ, List.append_assoc]
  have h1 : (o.take t ++ ([(i : Int)] ++ o.drop t)).Perm ((i : Int) :: (o.take t ++ o.drop t)) := List.perm_middle
  rw [List.take_append_drop] at h1
  exact h1.trans ((List.Perm.cons _ h).trans (List.perm_append_singleton _ _).symm)
/-- What order returns. -/
def OrderR (w : World) (n : Nat) (e : Ending) (w' : World) : Prop :=
  ∃ (o : List Int) (g c : Nat), IsOrd n o ∧ e = .returned (.slice (some ⟨g, 0, none⟩) n c) ∧ Arr w' w.heap.size g c o ∧ Below w.heap.size w w'
def OrderI (w : World) (n : Nat) (s q : Value) (wr : World) : Prop :=
  ∃ (i : Nat) (o : List Int) (g c : Nat), q = .int .i64 i ∧ i ≤ n ∧ s = .slice (some ⟨g, 0, none⟩) i c ∧ i ≤ c ∧ c ≤ 9223372036854775807 ∧ Hid (IsOrd i o) ∧ Hid (Arr wr w.heap.size g c o) ∧ Hid (Below w.heap.size w wr)
set_option maxHeartbeats 4000000 in
theorem order_calls (n : Nat) (hn : n ≤ 20) (A : Option Addr) (m c : Nat) (bs : List Int) (w : World) (hm : m = bs.length) (hA : RdU w A bs) (hl : m ≤ c) (hc : c ≤ 9223372036854775807) (hbs : ∀ b ∈ bs, 0 ≤ b ∧ b ≤ 255) :
    Calls Try.prog 27 #[.int .i64 n, .slice A m c] w (OrderR w n) := by
  have HM := Lib.hid hm
  have HA := Lib.hid hA
  have HBS := Lib.hid hbs
  have hm63 : (m : Int) ≤ 9223372036854775807 := by omega
  clear hm hA hbs
  go_enter Try.func27, Try.ntmps27
  go_wp2_with fail
  go_loopw [5, 6, 7] (fun s q _ wr => OrderI w n s q wr) (fun _ q _ _ => n - (intOf q).toNat)
  case atStart => exact ⟨0, [], w.heap.size, 0, rfl, Nat.zero_le _, rfl, Nat.le_refl _, by omega, Lib.hid (by simp [IsOrd, idn]), Lib.hid (arr_newE w _ _ (Nat.le_refl _) rfl), Lib.hid ((Below.refl _ _).alloc (Nat.le_refl _) _)⟩
  case round =>
    obtain ⟨i, o, g, cg, rfl, hin, rfl, hic, hc2, HO, HR, HB⟩ := hrel
    by_cases hlt : i < n
    · obtain ⟨W2, hW2⟩ : ∃ q, q = wr := ⟨_, rfl⟩
      rw [← hW2] at HR HB ⊢
      clear hW2
      have hi63 : (i : Int) + 1 ≤ 100 := by omega
      have hz : ((i : Int) + 1 == 0) = false := by rw [beq_eq_false_iff_ne]; omega
      have hza : ¬ ((i : Int) + 1 = 0) := by omega
      have wi : IntKind.i64.wrap ((i : Int) + 1) = (i : Int) + 1 := IntWalk.i64_in _ (by omega)
      go_upto_if 17 with fail
      go_cut [7] from 9 to 37 (fun q wx => (∃ t : Nat, t ≤ i ∧ q = .int .i64 t) ∧ W2 = wx)
      case first =>
        by_cases him : i < m
        · obtain ⟨b, o', rfl, hb, hc1⟩ := HA.out.at i (by rw [← HM.out]; exact him)
          have d1 := (HB.out.cell (p := ⟨b, o' + i, none⟩) hb).trans hc1
          have hp := HBS.out bs[i] (List.getElem_mem _)
          obtain ⟨p1, hp1⟩ : ∃ z, z = bs[i]'(by rw [← HM.out]; exact him) := ⟨_, rfl⟩
          rw [← hp1] at d1 hp
          have a1 := Int.emod_nonneg p1 (by omega : (i : Int) + 1 ≠ 0)
          have a2 := Int.emod_lt_of_pos p1 (by omega : 0 < (i : Int) + 1)
          obtain ⟨t, ht⟩ : ∃ t : Nat, p1 % ((i : Int) + 1) = t := ⟨(p1 % ((i : Int) + 1)).toNat, by omega⟩
          rw [ht] at a1 a2
          have u1 : Int.tmod p1 ((i : Int) + 1) = t := by rw [← ht]; exact Int.tmod_eq_emod_of_nonneg hp.1
          obtain ⟨q1, q2⟩ := hp
          clear hc1 hp1 ht
          go_wp2_with fail
          go_meet
          exact ⟨⟨t, by omega, rfl⟩, rfl⟩
        · go_wp2_with fail
          go_meet
          exact ⟨⟨0, Nat.zero_le _, rfl⟩, rfl⟩
      case rest =>
        obtain ⟨⟨t, ht, rfl⟩, rfl⟩ := hcut
        have hol := HO.out.len
        have z1 : (0 : Int) ≤ (t : Int) := by omega
        have z2 : (t : Int) ≤ (i : Int) := by omega
        have z3 : (t : Int) ≤ (cg : Int) := by omega
        have z4 : (i : Int) ≤ (cg : Int) := by omega
        have z5 : t ≤ cg := by omega
        have z6 : (cg : Int) ≤ 9223372036854775807 := by omega
        go_wp2_with fail
        go_region_held3 (fun w' => Below W2.heap.size W2 w')
          ((repeat (first | with_reducible exact Below.refl _ _ | with_reducible refine Below.drew ?_ | with_reducible refine Below.alloc ?_ (by first | (simp; done) | (simp; omega) | omega) _ | with_reducible refine Below.trans ?_ hb4 | with_reducible refine Below.trans ?_ hb3 | with_reducible refine Below.trans ?_ hb2)))
          ((first
            | (refine step_app (by rfl) (.tmp 26) (.tmp 29) 27 27 (by rfl) (by rfl) _ _ (by rfl) (by rfl) (owi_app (base := W2.heap.size) (xs := []) (ys := o.take t) (by rfl) (by simp; omega) (by repeat (first | with_reducible refine arr_newE _ _ _ (by first | (simp; done) | (simp; omega) | omega) (by first | rfl | simp) | with_reducible refine Arr.drew ?_ | with_reducible refine Arr.alloc ?_ _)) (take_cells HR.out (by (repeat (first | with_reducible exact Below.refl _ _ | with_reducible refine Below.drew ?_ | with_reducible refine Below.alloc ?_ (by first | (simp; done) | (simp; omega) | omega) _ | with_reducible refine Below.trans ?_ hb4 | with_reducible refine Below.trans ?_ hb3 | with_reducible refine Below.trans ?_ hb2))) t) (by first | (simp; done) | (simp; omega) | omega) (by simp; omega)) ?_
               rintro v2 w2 ⟨g2, c2, rfl, ho2, hb2, hn2⟩
               have hs2 : W2.heap.size ≤ w2.heap.size := by have := hb2.size; (try simp at this); omega)
            | (refine step_app (by rfl) (.tmp 30) (.tmp 32) 27 27 (by rfl) (by rfl) _ _ (by rfl) (by rfl) (owi_app (base := W2.heap.size) (xs := [] ++ o.take t) (ys := [(i : Int)]) (by first | rfl | (simp; omega)) (by rfl) (by repeat (first | with_reducible exact ho2 | with_reducible refine Arr.drew ?_ | with_reducible refine Arr.alloc ?_ _)) (ni_cells (by
                first
                | (repeat (first | with_reducible refine ni_newE _ _ _ (by first | rfl | simp) | with_reducible refine NI.drew ?_ | with_reducible refine NI.alloc ?_ _))
                  done
                | (repeat (first | with_reducible refine ni_newE _ _ _ (by first | rfl | simp) | with_reducible refine NI.drew ?_ | with_reducible refine NI.alloc ?_ _ | with_reducible refine hn2 _ _ (by omega) ?_)))) (by first | (simp; done) | (simp; omega) | omega) (by simp; omega)) ?_
               rintro v3 w3 ⟨g3, c3, rfl, ho3, hb3, hn3⟩
               have hs3 : W2.heap.size ≤ w3.heap.size := by have := hb3.size; (try simp at this); omega)
            | (refine step_app (by rfl) (.tmp 33) (.tmp 36) 27 27 (by rfl) (by rfl) _ _ (by rfl) (by rfl) (owi_tail (base := W2.heap.size) (xs := [] ++ o.take t ++ [(i : Int)]) (o := o) (t := t) (by first | rfl | (simp; omega)) (by omega) (by repeat (first | with_reducible exact ho3 | with_reducible refine Arr.drew ?_ | with_reducible refine Arr.alloc ?_ _)) HR.out (by (repeat (first | with_reducible exact Below.refl _ _ | with_reducible refine Below.drew ?_ | with_reducible refine Below.alloc ?_ (by first | (simp; done) | (simp; omega) | omega) _ | with_reducible refine Below.trans ?_ hb3 | with_reducible refine Below.trans ?_ hb2))) (by first | (simp; done) | (simp; omega) | omega) (by simp; omega)) ?_
               rintro v4 w4 ⟨g4, c4, rfl, ho4, hb4, hn4⟩
               have hs4 : W2.heap.size ≤ w4.heap.size := by have := hb4.size; (try simp at this); omega)))
        all_goals
          have hB9 := Lib.hid (show Below W2.heap.size W2 w4 by (repeat (first | with_reducible exact Below.refl _ _ | with_reducible refine Below.drew ?_ | with_reducible refine Below.alloc ?_ (by first | (simp; done) | (simp; omega) | omega) _ | with_reducible refine Below.trans ?_ hb4 | with_reducible refine Below.trans ?_ hb3 | with_reducible refine Below.trans ?_ hb2)))
          have hA4 := Lib.hid ho4
          have hb9 := ho4.bd
          clear ho4 hb4 hn4 ho3 hb3 hn3 ho2 hb2 hn2
          go_wp2_with fail
          go_roundw
          case rel => exact ⟨i + 1, _, g4, c4, by go_num, by omega, by (congr 1; omega), by simp at hb9; omega, hb9.2, by simpa using Lib.hid (ord_ins HO.out), Lib.hid (hA4.out.weaken HB.out.size), Lib.hid (HB.out.trans (hB9.out.mono HB.out.size))⟩
          case measure => simp [intOf]; omega
    · go_wp2_with fail
      go_ret
      have : i = n := by omega
      subst this
      exact ⟨o, g, cg, HO.out, rfl, HR.out, HB.out⟩
end Go.Proofs.Ytlidnhmagleehaa
