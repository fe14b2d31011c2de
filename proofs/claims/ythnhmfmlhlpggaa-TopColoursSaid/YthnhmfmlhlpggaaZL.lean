/- What is proved: the search for a colouring of edges (contracts of functions of patch, and what they need). No condition beyond those in each statement. -/
import Derived.Test.YthnhmfmlhlpggaaZK
import Derived.Test.YthnhmfmlhlpggaaPtH
import Derived.Deep.DeepAppendRoom
import Derived.Laws.EntriesVeiled
namespace Go.Proofs.Ythnhmfmlhlpggaa
open Go.RowKit Kn
set_option maxRecDepth 100000

theorem arr_app {w : World} {g c : Nat} {xs : List Int} {x : Int} {b cb : Nat} (h : Arr w g g c xs) (hx : w.cell? ⟨b, 0, none⟩ = some (.int .i64 x)) (hc : xs.length + 1 ≤ c) :
    ∃ w', (Builtin.append_ #[27, 27] 27 #[.slice (some ⟨g, 0, none⟩) xs.length c, .slice (some ⟨b, 0, none⟩) 1 cb]).run Try.prog w = .ok (.slice (some ⟨g, 0, none⟩) (xs.length + 1) c) w' ∧ Arr w' g g c (xs ++ [x]) ∧ w.grownBy w' (some g) := by
  obtain ⟨i0, hi, hz0, hz1, hz2⟩ := info_parts info3'
  obtain ⟨w', hrun, r1, r2⟩ := run_append_own_spare (P := Try.prog) (w := w) g 27 27 3 i0 1 Try.underlying27 hi hz1 g xs.length c (xs.map (Value.int .i64)) h ⟨b, 0, none⟩ 1 cb [.int .i64 x] rfl
    (fun j u hj => by
      match j, hj with
      | 0, hj => cases hj; exact hx) (fun u hu => by rw [List.mem_singleton] at hu; subst hu; rfl) hc
  refine ⟨w', hrun, ?_, r2⟩
  have e1 : (xs ++ [x]).length = xs.length + 1 := by simp
  have e2 : (xs ++ [x]).map (Value.int .i64) = xs.map (Value.int .i64) ++ [.int .i64 x] := by simp
  unfold Arr Ow
  rw [e1, e2]
  exact r1
theorem arr_cut {w : World} {base g c : Nat} {xs : List Int} (h : Arr w base g c xs) {i : Nat} (hi : i ≤ xs.length) : Arr w base g c (xs.take i) := by
  obtain ⟨_, ⟨h1, _⟩ | ⟨g', cap, cur, e, h1, h2, h3, h4, h5, h6⟩⟩ := h
  · cases h1
  · cases e
    refine ⟨by simp, .inr ⟨g, c, cur, rfl, h1, h2, by rw [List.length_take]; omega, h4, h5, ?_⟩⟩
    rw [Nat.mul_one] at h6 ⊢
    rw [List.map_take, ← h6, List.take_take, List.length_take]

/-- What the search reads. -/
structure CoEnv (es : List (Int × Int)) (bo be bm bf g : Nat) (Ae : Option Addr) (ce many : Nat) (W : World) : Prop where
  e : W.cell? ⟨be, 0, none⟩ = some (.slice Ae es.length ce)
  m : W.cell? ⟨bm, 0, none⟩ = some (.int .i64 many)
  f : W.cell? ⟨bf, 0, none⟩ = some (.func (.func 69) #[] #[.pointer (some ⟨bo, 0, none⟩), .pointer (some ⟨be, 0, none⟩), .pointer (some ⟨bm, 0, none⟩), .pointer (some ⟨bf, 0, none⟩)])
  rd : RdE W Ae es ∧ (es ≠ [] → ∀ a, Ae = some a → a.block ≠ bo ∧ a.block ≠ g)
  ne : be ≠ bo ∧ be ≠ g ∧ bm ≠ bo ∧ bm ≠ g ∧ bf ≠ bo ∧ bf ≠ g ∧ bo ≠ g
abbrev CoM (bo g : Nat) : Nat → Prop := fun k => k = bo ∨ k = g
theorem CoEnv.off {es : List (Int × Int)} {bo be bm bf g : Nat} {Ae : Option Addr} {ce many : Nat} {W W' : World} (h : CoEnv es bo be bm bf g Ae ce many W) (ho : Pt.Off (CoM bo g) W W') : CoEnv es bo be bm bf g Ae ce many W' := by
  have hc : ∀ {k : Nat} {v : Value}, k ≠ bo → k ≠ g → W.cell? ⟨k, 0, none⟩ = some v → W'.cell? ⟨k, 0, none⟩ = some v := fun h1 h2 hv =>
    (World.cell?_of_block (ho.block _ (World.block_lt_of_cell? _ _ hv) (fun hm => by rcases hm with e | e; exact h1 e; exact h2 e))).trans hv
  obtain ⟨n1, n2, n3, n4, n5, n6, n7⟩ := h.ne
  refine ⟨hc n1 n2 h.e, hc n3 n4 h.m, hc n5 n6 h.f, ⟨?_, h.rd.2⟩, h.ne⟩
  intro hne
  obtain ⟨b, o, rfl, hb, hcl⟩ := h.rd.1 hne
  obtain ⟨q1, q2⟩ := h.rd.2 hne _ rfl
  have hbl := ho.block b hb (fun hm => by rcases hm with e | e; exact q1 e; exact q2 e)
  exact ⟨b, o, rfl, Nat.lt_of_lt_of_le hb ho.size, fun i hi => ⟨(World.cell?_of_block hbl).trans (hcl i hi).1, (World.cell?_of_block hbl).trans (hcl i hi).2⟩⟩
/-- The list so far: its slice in a cell, its row in a block of its own. -/
structure OutS (W : World) (bo g c : Nat) (l : List Int) : Prop where
  cell : W.cell? ⟨bo, 0, none⟩ = some (.slice (some ⟨g, 0, none⟩) l.length c)
  free : W.frozen? ⟨bo, 0, none⟩ = false
  arr : Arr W g g c l
theorem OutS.below {W W' : World} {bo g c : Nat} {l : List Int} (h : OutS W bo g c l) (hb : Below W.heap.size W W') : OutS W' bo g c l :=
  ⟨(hb.cell (p := ⟨bo, 0, none⟩) (World.block_lt_of_cell? _ _ h.cell)).trans h.cell, (hb.frozen (p := ⟨bo, 0, none⟩) (World.block_lt_of_cell? _ _ h.cell)).trans h.free, h.arr.below hb⟩
/-- A store of the slice. -/
theorem OutS.store {W : World} {bo g c : Nat} {l' : List Int} {u : Value} (hne : bo ≠ g) (hc : W.cell? ⟨bo, 0, none⟩ = some u) (hf : W.frozen? ⟨bo, 0, none⟩ = false) (ha : Arr W g g c l') : OutS (W.setCell ⟨bo, 0, none⟩ (.slice (some ⟨g, 0, none⟩) l'.length c)) bo g c l' :=
  ⟨World.cell?_setCell_same' _ _ _ (by rw [hc]; rfl), by rw [World.frozen?_setCell]; exact hf, ha.same (Below.heap_setCell _ _ _ _ (fun e => hne e.symm))⟩

def CoI (bad : List Int → Bool) (many r : Nat) (l : List Int) (bo g c : Nat) (W : World) (v : Value) (wr : World) : Prop :=
  ∃ x : Nat, v = .int .i64 x ∧ x ≤ many ∧ Hid (colG bad many (r + 1) l = colFrom bad many r l x) ∧ Hid (Pt.Off (CoM bo g) W wr) ∧ ∃ l', Hid (OutS wr bo g c l') ∧ Hid (l'.take l.length = l ∧ l.length ≤ l'.length)

set_option maxHeartbeats 4000000 in
theorem colors1_calls (es : List (Int × Int)) (hes : es.length ≤ 100) (bo be bm bf g : Nat) (Ae : Option Addr) (ce many : Nat) (hce : es.length ≤ ce) (hce2 : ce ≤ 9223372036854775807) (hmany : many ≤ 1000) :
    ∀ (r : Nat) (l : List Int) (W : World), l.length + r = es.length → CoEnv es bo be bm bf g Ae ce many W → OutS W bo g es.length l →
      Calls Try.prog 69 #[.pointer (some ⟨bo, 0, none⟩), .pointer (some ⟨be, 0, none⟩), .pointer (some ⟨bm, 0, none⟩), .pointer (some ⟨bf, 0, none⟩)] W fun e W' => ∃ l', Pt.Off (CoM bo g) W W' ∧ OutS W' bo g es.length l' ∧
        ((e = .returned (.bool true) ∧ colG (clashF es) many r l = some l') ∨ (e = .returned (.bool false) ∧ colG (clashF es) many r l = none ∧ l' = l)) := by
  intro r
  induction r with
  | zero =>
    intro l W hlr henv hout
    have hl : l.length = es.length := by omega
    have c1 := hout.cell
    have c2 := henv.e
    rw [hl] at c1
    have HOUT := Lib.hid hout
    obtain ⟨m, hm⟩ : ∃ m, m = es.length := ⟨_, rfl⟩
    rw [← hm] at c1 c2 hce hes
    clear hlr hl hout henv
    go_enter Try.func69, Try.ntmps69
    go_wp2_with fail
    go_ret
    exact ⟨l, Pt.Off.refl _ _, HOUT.out, .inl ⟨rfl, rfl⟩⟩
  | succ r ih =>
    intro l W hlr henv hout
    have c1 := hout.cell
    have c2 := henv.e
    have c3 := henv.m
    have HENV := Lib.hid henv
    have HOUT := Lib.hid hout
    have HIH := Lib.hid ih
    obtain ⟨m, hm⟩ : ∃ m, m = es.length := ⟨_, rfl⟩
    obtain ⟨i, hi⟩ : ∃ i, i = l.length := ⟨_, rfl⟩
    have HM := Lib.hid hm
    have HI := Lib.hid hi
    rw [← hm] at c2 hce hes
    rw [← hi, ← hm] at c1
    have him : i < m := by omega
    have HLR : Hid (i + (r + 1) = m) := by show _ = _; omega
    have hq : ((i : Int) == (m : Int)) = false := by rw [beq_eq_false_iff_ne]; omega
    clear hlr henv hout ih hm hi
    go_enter Try.func69, Try.ntmps69
    go_wp2_with fail
    go_loopw [14] (fun v wr => CoI (clashF es) many r l bo g es.length W v wr) (fun v _ => many - (intOf v).toNat)
    case atStart => exact ⟨0, rfl, Nat.zero_le _, colG_succ _ _ _ _, Pt.Off.refl _ _, l, HOUT.out, by rw [List.take_length], Nat.le_refl _⟩
    case round =>
      obtain ⟨x, rfl, hx, HG, HO, l', HOU, HT⟩ := hrel
      have HE := Lib.hid (HENV.out.off HO.out)
      have hil' : i ≤ l'.length := by rw [HI.out]; exact HT.out.2
      have hlm : l'.length ≤ m := by rw [HM.out]; exact HOU.out.arr.bd.1
      have d1 := HOU.out.cell
      rw [← HM.out] at d1
      have d1f := HOU.out.free
      obtain ⟨k, hk⟩ : ∃ k, k = l'.length := ⟨_, rfl⟩
      rw [← hk] at d1 hil' hlm
      by_cases hlt : x < many
      · -- the append
        have hcut := arr_cut HOU.out.arr HT.out.2
        rw [HT.out.1] at hcut
        have HW1 : Below wr.heap.size wr (wr.alloc (.cells #[.int .i64 x] 3)) := (Below.refl _ _).alloc (Nat.le_refl _) _
        obtain ⟨w2, hrun, ha2, hg2⟩ := arr_app (b := wr.heap.size) (cb := 1) (hcut.below HW1) (Pt.cell_new _ _ _ _ rfl) (by rw [← HI.out, ← HM.out]; omega)
        rw [← HI.out, ← HM.out] at hrun
        have hne := HE.out.ne
        have d2 : w2.cell? ⟨bo, 0, none⟩ = some (.slice (some ⟨g, 0, none⟩) k m) := (World.cell?_of_block (hg2.block bo (Nat.lt_of_lt_of_le (World.block_lt_of_cell? _ _ d1) HW1.size) (by simp; omega))).trans ((HW1.cell (p := ⟨bo, 0, none⟩) (World.block_lt_of_cell? _ _ d1)).trans d1)
        have d2f : w2.frozen? ⟨bo, 0, none⟩ = false := (World.frozen?_of_block (hg2.block bo (Nat.lt_of_lt_of_le (World.block_lt_of_cell? _ _ d1) HW1.size) (by simp; omega))).trans ((HW1.frozen (p := ⟨bo, 0, none⟩) (World.block_lt_of_cell? _ _ d1)).trans d1f)
        have HO2 : Hid (Pt.Off (CoM bo g) wr w2) := (Pt.Off.of_below HW1).trans ⟨hg2.os, hg2.tape, hg2.output, hg2.size, fun q hq hM => hg2.block q hq (fun e => hM (.inr (by injection e)))⟩
        have hst := OutS.store (l' := l ++ [(x : Int)]) hne.2.2.2.2.2.2 d2 d2f ha2
        have hlen : (l ++ [(x : Int)]).length = i + 1 := by rw [List.length_append, ← HI.out]; rfl
        rw [hlen] at hst
        obtain ⟨w3, hw3⟩ : ∃ w3, w3 = w2.setCell ⟨bo, 0, none⟩ (.slice (some ⟨g, 0, none⟩) (i + 1) es.length) := ⟨_, rfl⟩
        have HO3 : Hid (Pt.Off (CoM bo g) wr w3) := by
          show Pt.Off _ _ _
          rw [hw3]; exact HO2.out.trans (Pt.Off.setCell _ (.inl rfl))
        have HOU3 : Hid (OutS w3 bo g es.length (l ++ [(x : Int)])) := by show OutS _ _ _ _ _; rw [hw3]; exact hst
        have HE3 := Lib.hid (HE.out.off HO3.out)
        have e2 := HE3.out.e
        have e1 := HOU3.out.cell
        rw [← HM.out] at e2
        rw [hlen, ← HM.out] at e1
        have CC := Lib.hid (clash_calls es (l ++ [(x : Int)]) Ae (some ⟨g, 0, none⟩) m ce (i + 1) m i HM.out hce hce2 hlen.symm (by omega) (by omega) him rfl w3 HE3.out.rd.1 HOU3.out.arr.rd)
        have HREC : Hid (∀ w4, Below w3.heap.size w3 w4 → Calls Try.prog 69 #[.pointer (some ⟨bo, 0, none⟩), .pointer (some ⟨be, 0, none⟩), .pointer (some ⟨bm, 0, none⟩), .pointer (some ⟨bf, 0, none⟩)] w4 fun e W' => ∃ l', Pt.Off (CoM bo g) w4 W' ∧ OutS W' bo g es.length l' ∧
            ((e = .returned (.bool true) ∧ colG (clashF es) many r (l ++ [(x : Int)]) = some l') ∨ (e = .returned (.bool false) ∧ colG (clashF es) many r (l ++ [(x : Int)]) = none ∧ l' = l ++ [(x : Int)]))) := fun w4 hb =>
          HIH.out (l ++ [(x : Int)]) w4 (by rw [hlen, ← HM.out]; have := HLR.out; omega) (HE3.out.off (Pt.Off.of_below hb)) (HOU3.out.below hb)
        have HLEN := Lib.hid hlen
        have HRUN := Lib.hid hrun
        have HSTEP : Hid (colFrom (clashF es) many r l x = ((if clashF es (l ++ [(x : Int)]) = true then none else colG (clashF es) many r (l ++ [(x : Int)])).or (colFrom (clashF es) many r l (x + 1)))) := colFrom_step hlt
        have HTK : Hid ((l ++ [(x : Int)]).take l.length = l ∧ l.length ≤ (l ++ [(x : Int)]).length) := ⟨by rw [List.take_left], by simp⟩
        have i0 : (0 : Int) ≤ (i : Int) := by omega
        have i1 : (i : Int) ≤ (m : Int) := by omega
        have hmm : (m : Int) ≤ 100 := by omega
        have HSZ : Hid (W.heap.size ≤ w3.heap.size) := Nat.le_trans HO.out.size HO3.out.size
        clear hcut HW1 hrun ha2 hg2 hst hlen hne HT
        rw [← HM.out] at hw3
        subst hw3
        cases hcl : clashF es (l ++ [(x : Int)])
        · have hcc := CC.out
          rw [hcl] at hcc
          rw [hcl, if_neg (by simp)] at HSTEP
          have HCC := Lib.hid hcc
          clear hcc hcl CC
          go_wp2_with (at_builtin; refine wpList_app rfl (.tmp 19) (.tmp 21) 27 27 rfl rfl _ _ rfl rfl HRUN.out ?_)
          refine HCC.out.mono ?_
          rintro e w4 ⟨rfl, hb4⟩
          have HB4 := Lib.hid hb4
          have f4 := (HE3.out.off (Pt.Off.of_below hb4)).f
          clear hb4
          go_wp2_with fail
          refine (HREC.out w4 HB4.out).mono ?_
          rintro e w5 ⟨l2, hO5, hOU5, hres⟩
          have HO5 := Lib.hid hO5
          have HOU5 := Lib.hid hOU5
          have HOT : Hid (Pt.Off (CoM bo g) W w5) := ((HO.out.trans HO3.out).trans (Pt.Off.of_below HB4.out)).trans HO5.out
          clear hO5 hOU5
          rcases hres with ⟨rfl, hs⟩ | ⟨rfl, hs, rfl⟩
          · have HS := Lib.hid hs
            clear hs
            go_wp2_with fail
            go_ret
            exact ⟨l2, HOT.out, HOU5.out, .inl ⟨rfl, by rw [HG.out, HSTEP.out, HS.out]; rfl⟩⟩
          · have HS := Lib.hid hs
            clear hs
            go_wp2_with fail
            go_roundw
            case rel => exact ⟨x + 1, by go_num, by omega, by rw [HG.out, HSTEP.out, HS.out]; rfl, HOT.out, _, HOU5.out, HTK.out⟩
            case measure => simp [intOf]; omega
        · have hcc := CC.out
          rw [hcl] at hcc
          rw [hcl, if_pos rfl] at HSTEP
          have HCC := Lib.hid hcc
          clear hcc hcl CC
          go_wp2_with (at_builtin; refine wpList_app rfl (.tmp 19) (.tmp 21) 27 27 rfl rfl _ _ rfl rfl HRUN.out ?_)
          refine HCC.out.mono ?_
          rintro e w4 ⟨rfl, hb4⟩
          have HB4 := Lib.hid hb4
          clear hb4
          go_wp2_with fail
          go_roundw
          case rel => exact ⟨x + 1, by go_num, by omega, by rw [HG.out, HSTEP.out]; rfl, (HO.out.trans HO3.out).trans (Pt.Off.of_below HB4.out), _, HOU3.out.below HB4.out, HTK.out⟩
          case measure => simp [intOf]; omega
      · have hxe : x = many := by omega
        subst hxe
        have HCUT : Hid (Arr wr g g es.length l) := by
          have := arr_cut HOU.out.arr HT.out.2
          rw [HT.out.1] at this
          exact this
        have HNE := Lib.hid HE.out.ne.2.2.2.2.2.2
        have HD := Lib.hid (And.intro d1 d1f)
        have i0 : (0 : Int) ≤ (i : Int) := by omega
        have i1 : (i : Int) ≤ (m : Int) := by omega
        have hmm : (m : Int) ≤ 100 := by omega
        clear HT
        go_wp2_with fail
        go_ret
        refine ⟨l, HO.out.trans (Pt.Off.setCell _ (.inl rfl)), ?_, .inr ⟨rfl, by rw [HG.out, colFrom_end (Nat.le_refl _)], rfl⟩⟩
        have := OutS.store HNE.out HD.out.1 HD.out.2 HCUT.out
        rw [← HI.out, ← HM.out] at this
        rw [← HM.out]
        exact this
end Go.Proofs.Ythnhmfmlhlpggaa
