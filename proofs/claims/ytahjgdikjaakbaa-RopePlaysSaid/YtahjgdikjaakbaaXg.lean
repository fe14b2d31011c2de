/- What is proved: the reference's New. No condition beyond those in each statement. -/
import Derived.Test.YtahjgdikjaakbaaPg
import Derived.Deep.RegionLaw
namespace Go.Proofs.Ytahjgdikjaakbaa
open Go.RowKit

theorem info36 : (Try.prog.info? 36).map (fun i => (i.zero, i.size, i.bytes)) = some (some (.slice none 0 0), 1, 24) := by kernel_rfl
/-- An append of one row. -/
theorem row_push78 {W : World} {B k g : Nat} {v : Value} {xs : List Value} {a : Value} (h : W.ownsRow B 36 1 v k xs) (hk : k ≤ 1000) (hB : B ≤ W.heap.size) (ha : W.cell? ⟨g, 0, none⟩ = some a) (oa : a.oneCell' = true) :
    ∃ v' w', (Builtin.append_ #[78, 78] 78 #[v, .slice (some ⟨g, 0, none⟩) 1 1]).run Try.prog W = .ok v' w' ∧ (∃ g' c, v' = .slice (some ⟨g', 0, none⟩) (k + 1) c) ∧ w'.ownsRow B 36 1 v' (k + 1) (xs ++ [a]) ∧ W.grownBy w' v.ownBlock := by
  obtain ⟨i0, hi, hz0, hz1, hz2⟩ := info_parts info36
  have hn2 : ∀ j u, ([a] : List Value)[j]? = some u → W.cell? ((⟨g, 0, none⟩ : Addr).add j) = some u := by
    intro j u hj
    rw [addr_add, Nat.zero_add]
    cases j with
    | zero => cases hj; exact ha
    | succ j => simp at hj
  have h1 : ∀ u ∈ ([a] : List Value), u.oneCell' = true := by intro u hu; simp at hu; subst hu; exact oa
  obtain ⟨v', w', hrun, r1, r2, r3⟩ := run_append_own (P := Try.prog) W B 78 78 36 i0 _ 1 24 Try.underlying78 hi hz0 hz1 hz2 rfl (by decide) v k xs h ⟨g, 0, none⟩ 1 1 [a] rfl hn2 h1 (by simp [maxLen]; omega) (by omega) hB
  refine ⟨v', w', hrun, ?_, r1, r2⟩
  rcases r1.2 with ⟨_, h0⟩ | ⟨g', cap, cur, rfl, _⟩
  · omega
  · exact ⟨g', cap, rfl⟩
/-- New's tower under way: k rows are there. -/
structure RN (w : World) (N n : Nat) (h : Int) (S V k : Nat) (K : Nat → Nat) (v : Value) (wr : World) : Prop where
  hT : wr.heap[N + 2]? = some (.cells #[.slice (some ⟨S, 0, none⟩) n n, v, .slice (some ⟨V, 0, none⟩) n n, nilV, .int .i64 h, nilV, .int .i64 0] 80 (0, 0))
  hS : Row wr 3 S 0 n (zerosV n)
  hV : Row wr 3 V 0 n (zerosV n)
  hB : wr.ownsRow (N + 3) 36 1 v k (kbV K n k)
  hK : ∀ i, i < k → N + 3 ≤ K i ∧ Row wr 3 (K i) 0 n (zerosV n)
  inj : ∀ i j, i < k → j < k → K i = K j → i = j
  bel : Below w.heap.size w wr
  siz : N + 3 ≤ wr.heap.size ∧ N = w.heap.size
  sv : (S = N ∧ V = N + 1) ∨ (S = N + 1 ∧ V = N)
def RNe (w : World) (N n : Nat) (h : Int) (S V : Nat) (v : Value) (wr : World) : Prop := ∃ k K u, v = .int .i64 (k : Nat) ∧ k ≤ n ∧ RN w N n h S V k K u wr
theorem own36_ne {w : World} {B k n b : Nat} {v : Value} {xs zs : List Value} (h : w.ownsRow B 36 1 v k xs) (r : Row w 3 b 0 n zs) : v.ownBlock ≠ some b := by
  intro e
  rcases h.2 with ⟨rfl, _⟩ | ⟨g, cap, cur, rfl, _, hg, _⟩
  · cases e
  · cases e
    obtain ⟨c2, h2, _⟩ := r
    rw [hg] at h2
    injection h2 with h2
    injection h2 with _ h2
    cases h2
theorem rowZ {w : World} {g n : Nat} {Z : Array Value} (hn : n ≤ 6) (hZ : Z.toList = zerosV n) (h : w.heap[g]? = some (.cells Z 3 (0, 0))) : Row w 3 g 0 n (zerosV n) := by
  refine ⟨Z, h, by rw [zerosV_len]; exact Nat.le_refl _, by simp [maxLen]; omega, ?_, ?_⟩
  · have : Z.toList.length = n := by rw [hZ, zerosV_len]
    rw [Array.length_toList] at this
    omega
  · rw [List.drop_zero, hZ, zerosV_len]
    exact List.take_of_length_le (by rw [zerosV_len]; exact Nat.le_refl _)
theorem rn_new {w : World} {n : Nat} {h : Int} {Z : Array Value} (hn : n ≤ 6) (hZ : Z.toList = zerosV n) {S V : Nat} (sv : (S = w.heap.size ∧ V = w.heap.size + 1) ∨ (S = w.heap.size + 1 ∧ V = w.heap.size)) :
    RN w w.heap.size n h S V 0 (fun _ => 0) nilV (((w.alloc (.cells Z 3)).alloc (.cells Z 3)).alloc (.cells #[.slice (some ⟨S, 0, none⟩) n n, nilV, .slice (some ⟨V, 0, none⟩) n n, nilV, .int .i64 h, nilV, .int .i64 0] 80)).drew := by
  obtain ⟨w1, hw1⟩ : ∃ w1, w1 = w.alloc (.cells Z 3) := ⟨_, rfl⟩
  obtain ⟨w2, hw2⟩ : ∃ w2, w2 = w1.alloc (.cells Z 3) := ⟨_, rfl⟩
  rw [← hw1, ← hw2]
  obtain ⟨w3, hw3⟩ : ∃ w3, w3 = w2.alloc (.cells #[.slice (some ⟨S, 0, none⟩) n n, nilV, .slice (some ⟨V, 0, none⟩) n n, nilV, .int .i64 h, nilV, .int .i64 0] 80) := ⟨_, rfl⟩
  rw [← hw3]
  have s1 : w1.heap.size = w.heap.size + 1 := by rw [hw1]; simp
  have s2 : w2.heap.size = w.heap.size + 2 := by rw [hw2]; simp; omega
  have s3 : w3.heap.size = w.heap.size + 3 := by rw [hw3]; simp; omega
  have b1 : Below w.heap.size w w1 := by rw [hw1]; exact (Below.refl _ _).alloc (Nat.le_refl _) _
  have b2 : Below w1.heap.size w1 w2 := by rw [hw2]; exact (Below.refl _ _).alloc (Nat.le_refl _) _
  have b3 : Below w2.heap.size w2 w3 := by rw [hw3]; exact (Below.refl _ _).alloc (Nat.le_refl _) _
  have h0 : w3.heap[w.heap.size]? = some (.cells Z 3 (0, 0)) := (b3.block _ (by omega)).trans ((b2.block _ (by omega)).trans (by rw [hw1]; exact World.alloc_heap_new w _))
  have h1 : w3.heap[w.heap.size + 1]? = some (.cells Z 3 (0, 0)) := (b3.block _ (by omega)).trans (by rw [← s1, hw2]; exact World.alloc_heap_new w1 _)
  have hT : w3.heap[w.heap.size + 2]? = some (.cells #[.slice (some ⟨S, 0, none⟩) n n, nilV, .slice (some ⟨V, 0, none⟩) n n, nilV, .int .i64 h, nilV, .int .i64 0] 80 (0, 0)) := by rw [← s2, hw3]; exact World.alloc_heap_new w2 _
  have hb : Below w.heap.size w w3 := (b1.trans (b2.mono (by omega))).trans (b3.mono (by omega))
  have r0 := rowZ (w := w3.drew) hn hZ (g := w.heap.size) h0
  have r1 := rowZ (w := w3.drew) hn hZ (g := w.heap.size + 1) h1
  refine ⟨hT, ?_, ?_, ⟨rfl, .inl ⟨rfl, rfl⟩⟩, fun i hi => absurd hi (Nat.not_lt_zero i), fun i j hi => absurd hi (Nat.not_lt_zero i), hb.drew, ⟨by show w.heap.size + 3 ≤ w3.heap.size; omega, rfl⟩, sv⟩
  · rcases sv with ⟨rfl, rfl⟩ | ⟨rfl, rfl⟩
    · exact r0
    · exact r1
  · rcases sv with ⟨rfl, rfl⟩ | ⟨rfl, rfl⟩
    · exact r1
    · exact r0
theorem rn_step {w wr W w6 : World} {N n k S V : Nat} {h : Int} {K : Nat → Nat} {v v6 : Value} {Z : Array Value} (I : RN w N n h S V k K v wr) (hW : Wm wr W Z) (hZ : Z.toList = zerosV n) (hn : n ≤ 6) {g6 c6 : Nat} (hv6 : v6 = .slice (some ⟨g6, 0, none⟩) (k + 1) c6)
    (r1 : w6.ownsRow (N + 3) 36 1 v6 (k + 1) (kbV K n k ++ [.slice (some ⟨wr.heap.size, 0, none⟩) n n])) (r2 : W.grownBy w6 v.ownBlock) : RN w N n h S V (k + 1) (fun i => if i = k then wr.heap.size else K i) v6 (w6.setCell ⟨N + 2, 1, none⟩ v6) := by
  have hs := I.siz
  have hWl : wr.heap.size < W.heap.size := (Array.getElem?_eq_some_iff.1 hW.2).1
  have hvl : ∀ b, v.ownBlock = some b → N + 3 ≤ b ∧ b < wr.heap.size := fun b hb => World.ownsRow.lt I.hB b hb
  have keep : ∀ b, b < wr.heap.size → v.ownBlock ≠ some b → b ≠ N + 2 → (w6.setCell ⟨N + 2, 1, none⟩ v6).heap[b]? = wr.heap[b]? := by
    intro b hb h1 h2
    rw [heap_setCell_other w6 ⟨N + 2, 1, none⟩ b _ h2, r2.block b (by omega) (fun e => h1 e.symm), hW.1.block b hb]
  have keepZ : (w6.setCell ⟨N + 2, 1, none⟩ v6).heap[wr.heap.size]? = some (.cells Z 3 (0, 0)) := by
    rw [heap_setCell_other w6 ⟨N + 2, 1, none⟩ _ _ (by show wr.heap.size ≠ N + 2; omega), r2.block _ hWl (fun e => by have := hvl _ e.symm; omega), hW.2]
  have hT6 : w6.heap[N + 2]? = wr.heap[N + 2]? := by
    rw [r2.block (N + 2) (by omega) (fun e => by have := hvl _ e.symm; omega), hW.1.block (N + 2) (by omega)]
  have hsv := I.sv
  refine ⟨?_, I.hS.same (keep S (by omega) (fun e => by have := hvl _ e; omega) (by omega)), I.hV.same (keep V (by omega) (fun e => by have := hvl _ e; omega) (by omega)), ?_, ?_, ?_, ?_, ⟨?_, hs.2⟩, hsv⟩
  · have := heap_setCell_same w6 (N + 2) 1 _ 80 v6 (hT6.trans I.hT)
    rw [this]; rfl
  · have e : kbV (fun i => if i = k then wr.heap.size else K i) n (k + 1) = kbV K n k ++ [.slice (some ⟨wr.heap.size, 0, none⟩) n n] := by
      unfold kbV
      rw [List.range_succ, List.map_append]
      congr 1
      · refine List.map_congr_left fun i hi => ?_
        have := List.mem_range.1 hi
        show Value.slice (some ⟨if i = k then wr.heap.size else K i, 0, none⟩) n n = _
        rw [if_neg (by omega)]
      · simp
    rw [e]
    refine ⟨r1.1, r1.2.imp id ?_⟩
    rintro ⟨g, cap, cur, e1, h1, h2, h3⟩
    refine ⟨g, cap, cur, e1, h1, ?_, h3⟩
    rw [heap_setCell_other w6 ⟨N + 2, 1, none⟩ g _ (by show g ≠ N + 2; omega)]
    exact h2
  · intro i hi
    by_cases e : i = k
    · subst e
      rw [if_pos rfl]
      exact ⟨hs.1, rowZ hn hZ keepZ⟩
    · rw [if_neg e]
      obtain ⟨h1, h2⟩ := I.hK i (by omega)
      exact ⟨h1, h2.same (keep _ h2.lt (own36_ne I.hB h2) (by omega))⟩
  · intro i j hi hj hij
    have hij : (if i = k then wr.heap.size else K i) = if j = k then wr.heap.size else K j := hij
    by_cases e1 : i = k
    · by_cases e2 : j = k
      · omega
      · rw [if_pos e1, if_neg e2] at hij
        have := (I.hK j (by omega)).2.lt
        omega
    · by_cases e2 : j = k
      · rw [if_neg e1, if_pos e2] at hij
        have := (I.hK i (by omega)).2.lt
        omega
      · rw [if_neg e1, if_neg e2] at hij
        exact I.inj i j (by omega) (by omega) hij
  · have b1 : Below w.heap.size wr w6 := by
      have h9 := I.bel.size
      refine ⟨r2.os.trans hW.1.os, r2.tape.trans hW.1.tape, r2.output.trans hW.1.output, Nat.le_trans hW.1.size r2.size, fun b hb => ?_⟩
      rw [r2.block b (by omega) (fun e => by have := hvl _ e.symm; omega), hW.1.block b (by omega)]
    exact (I.bel.trans b1).setCell (p := ⟨N + 2, 1, none⟩) (by show w.heap.size ≤ N + 2; omega) _
  · have := r2.size
    simp [World.setCell]
    omega
/-- New's tower stands for the abstract one. -/
theorem RN.low {w wr : World} {N n S V h : Nat} {K : Nat → Nat} {v : Value} (I : RN w N n (h : Int) S V n K v wr) (hn : 1 ≤ n ∧ n ≤ 6) : ∃ m, RLow wr (N + 2) (TS.made n h) [] m ∧ ∀ x g, rblk (N + 2) n m x = some g → N ≤ g := by
  rcases I.hB.2 with ⟨_, e⟩ | ⟨B, cap, cur, rfl, hB, hg, h1, h2, h3, h4⟩
  · omega
  · have hsv := I.sv
    have hz : zerosV n = intsV (List.replicate n 0) := by simp [zerosV, intsV]
    have hKB : ∀ i, i < n → K i ≠ B := fun i hi e => own36_ne I.hB (I.hK i hi).2 (by rw [e]; rfl)
    have key : ∀ x g, rblk (N + 2) n ⟨S, B, cap, V, K, nilV, nilV⟩ x = some g → (x = .T ∧ g = N + 2) ∨ (x = .S ∧ g = S) ∨ (x = .V ∧ g = V) ∨ (x = .B ∧ g = B) ∨ ∃ i, x = .K i ∧ i < n ∧ g = K i := by
      intro x g hx
      cases x with
      | T => cases hx; exact .inl ⟨rfl, rfl⟩
      | S => cases hx; exact .inr (.inl ⟨rfl, rfl⟩)
      | V => cases hx; exact .inr (.inr (.inl ⟨rfl, rfl⟩))
      | B => cases hx; exact .inr (.inr (.inr (.inl ⟨rfl, rfl⟩)))
      | Q => cases hx
      | F => cases hx
      | K i =>
        have hx : (if i < n then some (K i) else none) = some g := hx
        split at hx
        · rename_i hi; cases hx; exact .inr (.inr (.inr (.inr ⟨i, rfl, hi, rfl⟩)))
        · cases hx
    refine ⟨⟨S, B, cap, V, K, nilV, nilV⟩, ⟨I.hT, by have := I.hS; rw [hz] at this; exact this, ?_, by have := I.hV; rw [hz] at this; exact this, ?_, ⟨rfl, .inl ⟨rfl, rfl⟩⟩, owc_nil _ _, ?_⟩, ?_⟩
    · exact ⟨cur, hg, by rw [kbV_len]; exact h1, h2, by rw [Nat.mul_one] at h3; show 0 + cap ≤ cur.size; omega, by rw [List.drop_zero, kbV_len]; rw [Nat.mul_one] at h4; exact h4⟩
    · intro i hi
      have hi : i < n := hi
      have : (TS.made n h).known.getD i [] = List.replicate n 0 := by
        simp only [TS.made, List.getD_eq_getElem?_getD, List.getElem?_replicate, if_pos hi]
        rfl
      rw [this, ← hz]
      exact (I.hK i hi).2
    · intro x y g hx hy
      rcases key x g hx with ⟨rfl, ex⟩ | ⟨rfl, ex⟩ | ⟨rfl, ex⟩ | ⟨rfl, ex⟩ | ⟨i, rfl, hi, ex⟩ <;> rcases key y g hy with ⟨rfl, ey⟩ | ⟨rfl, ey⟩ | ⟨rfl, ey⟩ | ⟨rfl, ey⟩ | ⟨j, rfl, hj, ey⟩
      all_goals first
        | rfl
        | omega
        | (have := (I.hK i hi).1; omega)
        | (have := (I.hK j hj).1; omega)
        | (exact absurd (ex.symm.trans ey) (hKB i hi))
        | (exact absurd (ey.symm.trans ex) (hKB j hj))
        | (rw [I.inj i j hi hj (ex.symm.trans ey)])
    · intro x g hx
      rcases key x g hx with ⟨_, ex⟩ | ⟨_, ex⟩ | ⟨_, ex⟩ | ⟨_, ex⟩ | ⟨i, _, hi, ex⟩
      · omega
      · omega
      · omega
      · omega
      · have := (I.hK i hi).1; omega
set_option maxRecDepth 100000 in
set_option maxHeartbeats 8000000 in
theorem refnew_calls {n h : Nat} (w : World) (hn : 1 ≤ n ∧ n ≤ 6) :
    Calls Try.prog 30 #[.int .i64 n, .int .i64 h] w fun e w' => ∃ S V K v, e = .returned (.pointer (some ⟨w.heap.size + 2, 0, none⟩)) ∧ RN w w.heap.size n h S V n K v w' := by
  obtain ⟨Z, hZ, mk⟩ := made_all n (by omega)
  go_enter Try.func30, Try.ntmps30
  go_wp2_with fail
  go_region
  · have HI : Hid (RN w w.heap.size n h w.heap.size (w.heap.size + 1) 0 (fun _ => 0) nilV (((w.alloc (.cells Z 3)).alloc (.cells Z 3)).alloc (.cells #[.slice (some ⟨w.heap.size, 0, none⟩) n n, nilV, .slice (some ⟨w.heap.size + 1, 0, none⟩) n n, nilV, .int .i64 h, nilV, .int .i64 0] 80)).drew) := rn_new hn.2 hZ (by first | exact .inl ⟨rfl, rfl⟩ | exact .inr ⟨rfl, rfl⟩)
    obtain ⟨N, hN⟩ : ∃ N, N = w.heap.size := ⟨_, rfl⟩
    go_wp2_with fail
    rw [← hN] at HI ⊢
    have HN := Lib.hid hN
    clear hN
    go_loopw [6, 7] (fun v6 _ wr => RNe w N n h N (N + 1) v6 wr) (fun v6 _ _ => n - (intOf v6).toNat)
    case atStart => exact ⟨0, _, _, rfl, Nat.zero_le _, HI.out⟩
    case round =>
      clear HI
      obtain ⟨k, K, v, rfl, hk, I⟩ := hrel
      have HH := Lib.hid I
      have c0 : wr.cell? ⟨N + 2, 1, none⟩ = some v := by rw [cell_of_row wr (N + 2) 1 _ 80 (0, 0) I.hT]; rfl
      have f0 : wr.frozen? ⟨N + 2, 1, none⟩ = false := by simp [World.frozen?, I.hT]
      by_cases hlt : k < n
      · have hTl : N + 2 < wr.heap.size := World.block_lt_of_cell? _ _ c0
        obtain ⟨p0, l0, k0, hv⟩ : ∃ p l c, v = Value.slice p l c := by
          rcases I.hB.2 with ⟨e, _⟩ | ⟨g, cap, cur, e, _⟩
          · exact ⟨_, _, _, e⟩
          · exact ⟨_, _, _, e⟩
        obtain ⟨W, hW⟩ : ∃ W, W = (wr.alloc (.cells Z 3)).alloc (.cells #[.slice (some ⟨wr.heap.size, 0, none⟩) n n] 36) := ⟨_, rfl⟩
        have hwm : Wm wr W Z := by rw [hW]; exact (wm_new wr Z).alloc _
        have hs1 : (wr.alloc (.cells Z 3)).heap.size = wr.heap.size + 1 := by simp
        have hown : W.ownsRow (N + 3) 36 1 v k (kbV K n k) := World.ownsRow.kept I.hB (row := none) ⟨hwm.1.os, hwm.1.tape, hwm.1.output, hwm.1.size, fun b hb _ => hwm.1.block b hb⟩ (by cases v.ownBlock <;> simp)
        obtain ⟨v6, w6, hrun, ⟨g6, c6, hv6⟩, r1, r2⟩ := row_push78 (g := wr.heap.size + 1) (a := .slice (some ⟨wr.heap.size, 0, none⟩) n n) hown (by omega) (by have := I.siz.1; have := hwm.1.size; omega) (by rw [hW, World.cell?_alloc_at _ _ _ _ hs1.symm]; rfl) rfl
        have hI6 := rn_step I hwm hZ hn.2 hv6 r1 r2
        have hvl : some (N + 2) ≠ v.ownBlock := fun e => by have := (World.ownsRow.lt I.hB _ e.symm).1; omega
        have hbk : w6.heap[N + 2]? = wr.heap[N + 2]? := (r2.block (N + 2) (Nat.lt_of_lt_of_le hTl hwm.1.size) hvl).trans (hwm.1.block (N + 2) hTl)
        have g0 : w6.cell? ⟨N + 2, 1, none⟩ = some v := (World.cell?_of_block (a := ⟨N + 2, 1, none⟩) hbk).trans c0
        have gf : w6.frozen? ⟨N + 2, 1, none⟩ = false := (World.frozen?_of_block (a := ⟨N + 2, 1, none⟩) hbk).trans f0
        subst hv
        subst hv6
        rw [hW] at hrun
        have HRUN := Lib.hid hrun
        have HI6 := Lib.hid hI6
        clear I hown hrun hI6 r1 r2 hbk hvl hwm hW hs1
        go_wp2_with (at_builtin; refine wpList_app rfl (.tmp 25) (.tmp 28) 78 78 rfl rfl _ _ rfl rfl HRUN.out ?_)
        go_roundw
        case rel => exact ⟨k + 1, _, _, by go_num, by omega, HI6.out⟩
        case measure => simp [intOf]; omega
      · have hkn : k = n := by omega
        subst hkn
        clear I c0 f0
        go_wp2_with fail
        go_ret
        have hN := HN.out
        rw [hN] at HH ⊢
        exact ⟨_, _, K, v, rfl, HH.out⟩
  · have HI : Hid (RN w w.heap.size n h (w.heap.size + 1) w.heap.size 0 (fun _ => 0) nilV (((w.alloc (.cells Z 3)).alloc (.cells Z 3)).alloc (.cells #[.slice (some ⟨w.heap.size + 1, 0, none⟩) n n, nilV, .slice (some ⟨w.heap.size, 0, none⟩) n n, nilV, .int .i64 h, nilV, .int .i64 0] 80)).drew) := rn_new hn.2 hZ (by first | exact .inl ⟨rfl, rfl⟩ | exact .inr ⟨rfl, rfl⟩)
    obtain ⟨N, hN⟩ : ∃ N, N = w.heap.size := ⟨_, rfl⟩
    go_wp2_with fail
    rw [← hN] at HI ⊢
    have HN := Lib.hid hN
    clear hN
    go_loopw [6, 7] (fun v6 _ wr => RNe w N n h (N + 1) N v6 wr) (fun v6 _ _ => n - (intOf v6).toNat)
    case atStart => exact ⟨0, _, _, rfl, Nat.zero_le _, HI.out⟩
    case round =>
      clear HI
      obtain ⟨k, K, v, rfl, hk, I⟩ := hrel
      have HH := Lib.hid I
      have c0 : wr.cell? ⟨N + 2, 1, none⟩ = some v := by rw [cell_of_row wr (N + 2) 1 _ 80 (0, 0) I.hT]; rfl
      have f0 : wr.frozen? ⟨N + 2, 1, none⟩ = false := by simp [World.frozen?, I.hT]
      by_cases hlt : k < n
      · have hTl : N + 2 < wr.heap.size := World.block_lt_of_cell? _ _ c0
        obtain ⟨p0, l0, k0, hv⟩ : ∃ p l c, v = Value.slice p l c := by
          rcases I.hB.2 with ⟨e, _⟩ | ⟨g, cap, cur, e, _⟩
          · exact ⟨_, _, _, e⟩
          · exact ⟨_, _, _, e⟩
        obtain ⟨W, hW⟩ : ∃ W, W = (wr.alloc (.cells Z 3)).alloc (.cells #[.slice (some ⟨wr.heap.size, 0, none⟩) n n] 36) := ⟨_, rfl⟩
        have hwm : Wm wr W Z := by rw [hW]; exact (wm_new wr Z).alloc _
        have hs1 : (wr.alloc (.cells Z 3)).heap.size = wr.heap.size + 1 := by simp
        have hown : W.ownsRow (N + 3) 36 1 v k (kbV K n k) := World.ownsRow.kept I.hB (row := none) ⟨hwm.1.os, hwm.1.tape, hwm.1.output, hwm.1.size, fun b hb _ => hwm.1.block b hb⟩ (by cases v.ownBlock <;> simp)
        obtain ⟨v6, w6, hrun, ⟨g6, c6, hv6⟩, r1, r2⟩ := row_push78 (g := wr.heap.size + 1) (a := .slice (some ⟨wr.heap.size, 0, none⟩) n n) hown (by omega) (by have := I.siz.1; have := hwm.1.size; omega) (by rw [hW, World.cell?_alloc_at _ _ _ _ hs1.symm]; rfl) rfl
        have hI6 := rn_step I hwm hZ hn.2 hv6 r1 r2
        have hvl : some (N + 2) ≠ v.ownBlock := fun e => by have := (World.ownsRow.lt I.hB _ e.symm).1; omega
        have hbk : w6.heap[N + 2]? = wr.heap[N + 2]? := (r2.block (N + 2) (Nat.lt_of_lt_of_le hTl hwm.1.size) hvl).trans (hwm.1.block (N + 2) hTl)
        have g0 : w6.cell? ⟨N + 2, 1, none⟩ = some v := (World.cell?_of_block (a := ⟨N + 2, 1, none⟩) hbk).trans c0
        have gf : w6.frozen? ⟨N + 2, 1, none⟩ = false := (World.frozen?_of_block (a := ⟨N + 2, 1, none⟩) hbk).trans f0
        subst hv
        subst hv6
        rw [hW] at hrun
        have HRUN := Lib.hid hrun
        have HI6 := Lib.hid hI6
        clear I hown hrun hI6 r1 r2 hbk hvl hwm hW hs1
        go_wp2_with (at_builtin; refine wpList_app rfl (.tmp 25) (.tmp 28) 78 78 rfl rfl _ _ rfl rfl HRUN.out ?_)
        go_roundw
        case rel => exact ⟨k + 1, _, _, by go_num, by omega, HI6.out⟩
        case measure => simp [intOf]; omega
      · have hkn : k = n := by omega
        subst hkn
        clear I c0 f0
        go_wp2_with fail
        go_ret
        have hN := HN.out
        rw [hN] at HH ⊢
        exact ⟨_, _, K, v, rfl, HH.out⟩
/-- New makes the reference's tower. -/
theorem refnew_low {n h : Nat} (w : World) (hn : 1 ≤ n ∧ n ≤ 6) :
    Calls Try.prog 30 #[.int .i64 n, .int .i64 h] w fun e w' => ∃ R m, e = .returned (.pointer (some ⟨R, 0, none⟩)) ∧ RLow w' R (TS.made n h) [] m ∧ (∀ g, rfp R n m g → w.heap.size ≤ g) ∧ Below w.heap.size w w' := by
  refine (refnew_calls (h := h) w hn).mono ?_
  rintro e w' ⟨S, V, K, v, rfl, I⟩
  obtain ⟨m, hm, hg⟩ := I.low hn
  exact ⟨_, m, rfl, hm, fun g ⟨x, hx⟩ => hg x g hx, I.bel⟩
end Go.Proofs.Ytahjgdikjaakbaa
