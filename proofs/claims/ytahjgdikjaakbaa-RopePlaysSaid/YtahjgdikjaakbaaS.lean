/- What is proved: current. No condition beyond those in each statement. -/
import Derived.Test.YtahjgdikjaakbaaR
import Derived.Maps.RangeWalk
namespace Go.Proofs.Ytahjgdikjaakbaa
open Go.RowKit

/-- What messages there can be. -/
def MsOk (s : LS) : Prop := ∀ i j, i < s.n → j < s.n → ∀ v, v ∈ s.ms i j → (∃ no : Int, v = reqV no) ∨ v = tokV s.tsv s.tqv
def NoTok (s : LS) (i j : Nat) : Prop := ∀ v, v ∈ s.ms i j → ∃ no : Int, v = reqV no
/-- The outer loop of current. -/
def CuRel (w : World) (s : LS) (N r : Nat) (wr : World) : Prop :=
  ∃ left cnt, FlR wr s.M r s.n s.F left cnt ∧ Below w.heap.size w wr ∧ wr.cell? ⟨N, 0, none⟩ = some nilV ∧ wr.cell? ⟨N, 1, none⟩ = some nilV ∧ wr.frozen? ⟨N, 0, none⟩ = false ∧ wr.frozen? ⟨N, 1, none⟩ = false ∧ ∀ i j, i < s.n → j < s.n → left i j = false → NoTok s i j
/-- The inner one. -/
def CiRel (W : World) (s : LS) (i j : Nat) (u : Value) (wr : World) : Prop :=
  ∃ k : Nat, u = .int .i64 k ∧ k ≤ (s.ms i j).length ∧ Below W.heap.size W wr ∧ ∀ p, p < k → ∃ no : Int, (s.ms i j)[p]? = some (reqV no)
theorem Sl1.parts {w : World} {e : TypeId} {v : Value} {xs : List Value} (h : Sl1 w e v xs) : ∃ P C, v = .slice P xs.length C ∧ ∀ k (hk : k < xs.length), ∃ g off, P = some ⟨g, off, none⟩ ∧ g < w.heap.size ∧ w.cell? ⟨g, off + k, none⟩ = some xs[k] := by
  rcases h with ⟨rfl, rfl⟩ | ⟨g, off, cap, rfl, h⟩
  · exact ⟨none, 0, rfl, fun k hk => absurd hk (Nat.not_lt_zero k)⟩
  · exact ⟨_, cap, rfl, fun k hk => ⟨g, off, rfl, h.lt, h.at k hk⟩⟩
theorem frozen_new (w : World) (cs : Array Value) (t i : Nat) : (w.alloc (.cells cs t)).frozen? ⟨w.heap.size, i, none⟩ = false := by
  unfold World.frozen?
  rw [World.alloc_heap_new]
  simp
set_option maxHeartbeats 8000000 in
theorem current_calls {w : World} {T : Nat} {s : LS} (h : Low w T s) (hm : MsOk s) (hc : (∃ i j, i < s.n ∧ j < s.n ∧ tokV s.tsv s.tqv ∈ s.ms i j) ∨ (s.c2 = s.tsv ∧ s.c3 = s.tqv)) :
    Calls Try.prog 44 #[.pointer (some ⟨T, 0, none⟩)] w fun e w' => e = .returned (.agg #[s.tsv, s.tqv]) ∧ Below w.heap.size w w' := by
  obtain ⟨p1, l1, k1, ht1⟩ := h.hS.form
  obtain ⟨p2, l2, k2, ht2⟩ := h.hQ.form
  obtain ⟨N, hN⟩ : ∃ N, N = w.heap.size := ⟨_, rfl⟩
  obtain ⟨W, hW⟩ : ∃ W, W = w.alloc (.cells #[nilV, nilV] 61) := ⟨_, rfl⟩
  have hb : Below w.heap.size w W := by rw [hW]; exact (Below.refl _ _).alloc (Nat.le_refl _) _
  have y0 : W.cell? ⟨N, 0, none⟩ = some nilV := by rw [hW, hN]; exact World.cell?_alloc_at _ _ _ _ rfl
  have y1 : W.cell? ⟨N, 1, none⟩ = some nilV := by rw [hW, hN]; exact World.cell?_alloc_at _ _ _ _ rfl
  have hL := h.below hb
  have c4 : (w.alloc (.cells #[.slice none 0 0, .slice none 0 0] 61)).cell? ⟨T, 4, none⟩ = some (.map (some s.M)) := by have := hL.cells.2.2.2.2.1; rw [hW] at this; exact this
  obtain ⟨left, cnt, W1, hrun, hR, hb1, hz⟩ := fl_range hL.hM
  have hNw : N < W.heap.size := by rw [hW, hN]; simp
  have HREL : Hid (CuRel w s N W.heap.size W1) := by
    refine ⟨left, cnt, hR, hb.trans (hb1.mono hb.size), (hb1.cell (p := ⟨N, 0, none⟩) hNw).trans y0, (hb1.cell (p := ⟨N, 1, none⟩) hNw).trans y1, ?_, ?_, ?_⟩
    · rw [World.frozen?_of_block (a := ⟨N, 0, none⟩) (hb1.block N hNw), hW, hN]
      exact frozen_new _ _ _ _
    · rw [World.frozen?_of_block (a := ⟨N, 1, none⟩) (hb1.block N hNw), hW, hN]
      exact frozen_new _ _ _ _
    · intro i j hi hj hf
      have h1 := hL.hF i j hi hj
      rw [hz i j hi hj hf] at h1
      rcases h1 with ⟨_, e⟩ | ⟨g, off, cap, e, _⟩
      · intro v hv
        rw [e] at hv
        cases hv
      · cases e
  obtain ⟨r, hr⟩ : ∃ r, r = W.heap.size := ⟨_, rfl⟩
  rw [← hr] at hrun HREL
  have HRUN := Lib.hid hrun
  have HW := Lib.hid hW
  have HNN := Lib.hid hN
  have H := Lib.hid h
  have HM := Lib.hid hm
  have HC := Lib.hid hc
  have HT1 := Lib.hid ht1
  have HT2 := Lib.hid ht2
  rw [ht1, ht2]
  have HRR := Lib.hid hr
  clear h hm hc hb hW hN y0 y1 hL hrun hR hb1 hz hNw ht1 ht2 hr left cnt
  go_enter Try.func44, Try.ntmps44
  go_wp2_with (at_range; (have hW := HW.out; unfold nilV at hW; rw [← hW]; clear hW); refine wpList_rng rfl _ 62 rfl _ rfl HRUN.out ?_)
  go_frame
  go_loopw [14] (fun _ wr => CuRel w s N r wr) (fun _ wr => flLeft wr s.M r)
  case atStart => exact HREL.out
  case round =>
    obtain ⟨left, cnt, hR, hb, y0, y1, f0, f1, hz⟩ := hrel
    have HRN : Hid (r = N + 1 ∧ N = w.heap.size) := by
      have h1 := HRR.out
      have h2 := HNN.out
      have h3 := HW.out
      refine ⟨?_, h2⟩
      rw [h1, h3, h2]
      simp
    have HHB := Lib.hid hb
    have HY0 := Lib.hid y0
    have HY1 := Lib.hid y1
    have HF0 := Lib.hid f0
    have HF1 := Lib.hid f1
    have HZ := Lib.hid hz
    rcases fl_next hR 0 with ⟨hc0, hl0, hrun⟩ | ⟨i, j, w2, cnt', hi, hj, hlt, hrun, hR2, hcn, hg2, hsz2, hen⟩
    · have hL := H.out.below hb
      have c2 : wr.cell? ⟨T, 2, none⟩ = some (.slice p1 l1 k1) ∧ wr.cell? ⟨T, 3, none⟩ = some (.slice p2 l2 k2) := by
        have h0 := hL.cells
        rcases HC.out with ⟨i, j, hi, hj, hmem⟩ | ⟨e1, e2⟩
        · obtain ⟨no, e⟩ := hz i j hi hj (hl0 i j) _ hmem
          cases e
        · rw [← HT1.out, ← HT2.out, ← e1, ← e2]
          exact ⟨h0.2.2.1, h0.2.2.2.1⟩
      obtain ⟨c2, c3⟩ := c2
      rw [HNN.out] at y0 y1 f0 f1
      unfold nilV at y0 y1
      have HR := Lib.hid hrun
      have hTN : T ≠ w.heap.size := by have := H.out.lt .T T rfl; omega
      clear hR hb hz hrun hl0 hL hc0 HREL c4 HRUN
      go_wp2_with (at_next; refine wpList_nxt rfl _ rfl _ rfl HR.out ?_)
      try simp only [Exit.inBlock, Exit.then]
      refine bodyPost_ret (v := .agg #[.slice p1 l1 k1, .slice p2 l2 k2]) (by simp [results, Try.results44, go_sem, *]) rfl ⟨rfl, ?_⟩
      have h1 := HRN.out
      exact (HHB.out.setCell (by simp) _).setCell (by simp) _
    · have hgb : Below w.heap.size wr w2 := (Below.refl _ wr).grown hg2 hb.size (fun k hk => by cases hk; have := HRN.out; omega)
      have hb2 : Below w.heap.size w w2 := hb.trans hgb
      obtain ⟨P, C, hV, hcell⟩ := (H.out.hF i j hi hj).parts
      rw [hV] at hrun hen
      unfold keyV at hrun hen
      have hner : r ≠ w.heap.size := by have := HRN.out; omega
      have x0 : w2.cell? ⟨w.heap.size, 0, none⟩ = some nilV := by
        rw [HNN.out] at y0
        have hlt' : w.heap.size < wr.heap.size := by have := World.block_lt_of_cell? _ _ y0; exact this
        rw [World.cell?_of_block (a := ⟨w.heap.size, 0, none⟩) (hg2.block _ hlt' (fun e => hner (Option.some.inj e).symm))]
        exact y0
      have x1 : w2.cell? ⟨w.heap.size, 1, none⟩ = some nilV := by
        rw [HNN.out] at y1
        have hlt' : w.heap.size < wr.heap.size := by have := World.block_lt_of_cell? _ _ y1; exact this
        rw [World.cell?_of_block (a := ⟨w.heap.size, 1, none⟩) (hg2.block _ hlt' (fun e => hner (Option.some.inj e).symm))]
        exact y1
      have hfr : ∀ k, w2.frozen? ⟨w.heap.size, k, none⟩ = wr.frozen? ⟨w.heap.size, k, none⟩ := by
        intro k
        rw [HNN.out] at y0
        have hlt' : w.heap.size < wr.heap.size := by have := World.block_lt_of_cell? _ _ y0; exact this
        exact World.frozen?_of_block (a := ⟨w.heap.size, k, none⟩) (hg2.block _ hlt' (fun e => hner (Option.some.inj e).symm))
      have xl : w.heap.size < w2.heap.size := World.block_lt_of_cell? _ _ x0
      have HX : Hid (w2.cell? ⟨w.heap.size, 0, none⟩ = some nilV ∧ w2.cell? ⟨w.heap.size, 1, none⟩ = some nilV ∧ w2.frozen? ⟨w.heap.size, 0, none⟩ = false ∧ w2.frozen? ⟨w.heap.size, 1, none⟩ = false ∧ w.heap.size < w2.heap.size) := ⟨x0, x1, by rw [hfr, ← HNN.out]; exact f0, by rw [hfr, ← HNN.out]; exact f1, xl⟩
      have HR := Lib.hid hrun
      have HEN := Lib.hid hen
      have HR2 := Lib.hid hR2
      have HB2 := Lib.hid hb2
      have HCELL := Lib.hid hcell
      have HCN : Hid (cnt' < flLeft wr s.M r) := by rw [hR.left_eq]; exact hcn
      obtain ⟨L, hL⟩ : ∃ L, L = (s.ms i j).length := ⟨_, rfl⟩
      rw [← hL] at HR HEN
      have HLL := Lib.hid hL
      clear hR hb y0 y1 f0 f1 hz hrun hen hR2 hgb hb2 hV hcell x0 x1 hfr xl hcn hg2 hsz2 hL HREL c4 HRUN HHB HY0 HY1 HF0 HF1
      have hen := HEN.out
      go_wp2_with (at_next; refine wpList_nxt rfl _ rfl _ rfl HR.out ?_)
      clear hen
      have hLl : L ≤ 9223372036854775807 := by
        have := (H.out.hF i j hi hj)
        rcases this with ⟨_, e⟩ | ⟨g, off, cap, _, cur, _, h1, h2, _⟩
        · rw [HLL.out, e]; simp
        · rw [HLL.out]; simp [maxLen] at h2; omega
      go_loopw [20] (fun u wr' => CiRel w2 s i j u wr') (fun u _ => L - (intOf u).toNat)
      case atStart => exact ⟨0, rfl, Nat.zero_le _, Below.refl _ _, fun p hp => absurd hp (Nat.not_lt_zero p)⟩
      case round =>
        obtain ⟨k, rfl, hk, hb3, hno⟩ := hrel
        have HB3 := Lib.hid hb3
        have HNO := Lib.hid hno
        rw [← HLL.out] at hk
        by_cases hkl : k < L
        · obtain ⟨g, off, rfl, hgl, hcell⟩ := HCELL.out k (by rw [← HLL.out]; exact hkl)
          have c1 := (HB2.out.trans (hb3.mono HB2.out.size)).cell (p := ⟨g, off + k, none⟩) hgl |>.trans hcell
          have hmk := HM.out i j hi hj _ (List.getElem_mem (by rw [← HLL.out]; exact hkl : k < (s.ms i j).length))
          have z1 : (0 : Int) ≤ (k : Int) ∧ (k : Int) < L := by omega
          rcases hmk with ⟨no, e⟩ | e
          · rw [e] at c1
            unfold reqV at c1
            have T88 := ta88no
            have HE := Lib.hid e
            clear hb3 hno hcell hgl e
            go_wp2_with fail
            refine ⟨⟨k + 1, by go_num, by rw [← HLL.out]; omega, HB3.out.alloc (by exact HB3.out.size) _, fun p hp => ?_⟩, by simp [intOf]; omega⟩
            by_cases e : p = k
            · subst e
              exact ⟨no, by rw [List.getElem?_eq_getElem (by rw [← HLL.out]; exact hkl), HE.out]⟩
            · exact HNO.out p (by omega)
          · rw [e] at c1
            unfold tokV at c1
            rw [HT1.out, HT2.out] at c1
            have T61 := ta61
            obtain ⟨x0, x1, g0, g1, xl⟩ := HX.out
            have y0 := (hb3.cell (p := ⟨w.heap.size, 0, none⟩) xl).trans x0
            have y1 := (hb3.cell (p := ⟨w.heap.size, 1, none⟩) xl).trans x1
            have f0 := (World.frozen?_of_block (a := ⟨w.heap.size, 0, none⟩) (hb3.block _ xl)).trans g0
            have f1 := (World.frozen?_of_block (a := ⟨w.heap.size, 1, none⟩) (hb3.block _ xl)).trans g1
            have yl : w.heap.size < wr.heap.size := Nat.lt_of_lt_of_le xl hb3.size
            unfold nilV at y0 y1
            clear hb3 hno hcell hgl e x0 x1 g0 g1 xl
            have yne : w.heap.size ≠ wr.heap.size := by omega
            go_wp2_with fail
            try simp only [Exit.inBlock, Exit.then]
            refine bodyPost_ret (v := .agg #[.slice p1 l1 k1, .slice p2 l2 k2]) (by simp [results, Try.results44, go_sem, *]) rfl ⟨rfl, ?_⟩
            have hbb : Below w.heap.size w wr := HB2.out.trans (HB3.out.mono HB2.out.size)
            have h5 := (hbb.setCell (p := ⟨w.heap.size, 0, none⟩) (Nat.le_refl _) (.slice p1 l1 k1)).setCell (p := ⟨w.heap.size, 1, none⟩) (Nat.le_refl _) (.slice p2 l2 k2)
            exact h5.alloc h5.size _
        · have hkn : k = L := by omega
          subst hkn
          have hdone : NoTok s i j := by
            intro v hv
            obtain ⟨p, hp, e⟩ := List.mem_iff_getElem.1 hv
            rw [← HLL.out] at hp
            obtain ⟨no, h1⟩ := hno p hp
            rw [List.getElem?_eq_getElem (by rw [← HLL.out]; exact hp), e] at h1
            exact ⟨no, Option.some.inj h1⟩
          have HD := Lib.hid hdone
          clear hdone hb3 hno
          go_wp2_with fail
          have hbb : Below w.heap.size w wr := HB2.out.trans (HB3.out.mono HB2.out.size)
          obtain ⟨x0, x1, g0, g1, xl⟩ := HX.out
          have hb3 := HB3.out
          have hR3 := HR2.out.below hb3
          refine ⟨⟨_, cnt', hR3, hbb, ?_, ?_, ?_, ?_, ?_⟩, by rw [hR3.left_eq]; exact HCN.out⟩
          · rw [HNN.out]; exact (hb3.cell (p := ⟨w.heap.size, 0, none⟩) xl).trans x0
          · rw [HNN.out]; exact (hb3.cell (p := ⟨w.heap.size, 1, none⟩) xl).trans x1
          · rw [HNN.out]; exact (World.frozen?_of_block (a := ⟨w.heap.size, 0, none⟩) (hb3.block _ xl)).trans g0
          · rw [HNN.out]; exact (World.frozen?_of_block (a := ⟨w.heap.size, 1, none⟩) (hb3.block _ xl)).trans g1
          · intro a b ha hb hf
            have hf' : (left a b && !(a == i && b == j)) = false := hf
            rw [Bool.and_eq_false_iff] at hf'
            rcases hf' with hf' | hf'
            · exact HZ.out a b ha hb hf'
            · simp at hf'
              obtain ⟨rfl, rfl⟩ := hf'
              exact HD.out
end Go.Proofs.Ytahjgdikjaakbaa
