/- What is proved: the reference's is, In, send, pass. No condition beyond those in each statement. -/
import Derived.Test.YtahjgdikjaakbaaXa
namespace Go.Proofs.Ytahjgdikjaakbaa
open Go.RowKit

/-- An append gives the old block or a new one. -/
theorem app_fresh {P : Program} (w : World) (base : Nat) (t ty e : TypeId) (i : TypeInfo) (z : Value) (size bytes : Nat) (ht : P.underlying t = some (.slice e)) (hi : P.info? e = some i) (hz : i.zero = some z)
    (hsize : i.size = size) (hby : i.bytes = bytes)
    (v : Value) (n : Nat) (xs : List Value) (hown : w.ownsRow base e size v n xs)
    (a : Addr) (m c : Nat) (news : List Value) (hm : m ≠ 0) (hl : news.length = m * size) (hnews : ∀ j u, news[j]? = some u → w.cell? (a.add j) = some u) (h1 : ∀ u ∈ news, u.oneCell' = true)
    (h63 : n + m ≤ maxLen) (hbytes : (n + m) * bytes ≤ 140737488355328) {v' : Value} {w' : World} (hrun : (Builtin.append_ #[t, t] ty #[v, .slice (some a) m c]).run P w = .ok v' w') :
    ∀ g, v'.ownBlock = some g → v.ownBlock = some g ∨ w.heap.size ≤ g := by
  subst hsize
  subst hby
  have hsmall : n + m ≤ 9223372036854775807 := by simp only [maxLen] at h63; omega
  intro g hg
  rcases hown.2 with ⟨rfl, rfl⟩ | ⟨g0, cap, cur, rfl, hbg, hg0, hnc, hcm, hcs, htake⟩
  · have hr := run_append_nil (P := P) w t ty e i z ht hi hz a m c news hl hnews (by omega) (by omega) (by have hb := hbytes; simp only [Nat.zero_add] at hb; omega)
    rw [hrun] at hr
    injection hr with hv _
    subst hv
    cases hg
    exact .inr (Nat.le_refl _)
  · by_cases hroom : n + m ≤ cap
    · have hfit : n * i.size + news.length ≤ cur.size := by rw [hl, hcs, ← Nat.add_mul]; exact Nat.mul_le_mul_right _ hroom
      have hr := run_append_room (P := P) w t ty e i ht hi g0 n cap cur hg0 a m c news hl hnews h1 hroom hfit
      rw [hrun] at hr
      injection hr with hv _
      subst hv
      exact .inl hg
    · have holds : ∀ j u, xs[j]? = some u → w.cell? ((⟨g0, 0, none⟩ : Addr).add j) = some u := hown.cells (g := g0) rfl
      have hr := run_append_grow (P := P) w t ty e i z ht hi hz ⟨g0, 0, none⟩ n cap xs hown.1 holds a m c news hl hnews (by omega) (by omega) (growslice_fits (by omega) hbytes)
      rw [hrun] at hr
      injection hr with hv _
      subst hv
      cases hg
      exact .inr (Nat.le_refl _)
/-- An append of one call to a row of calls. -/
theorem owc_push2 {W : World} {v : Value} {xs : List Cal} {g : Nat} (x : Cal) (h : OwC W 0 v xs) (hl : xs.length ≤ 100000) (hx : ∀ j u, (calC x)[j]? = some u → W.cell? ⟨g, j, none⟩ = some u) :
    ∃ A n c w', (Builtin.append_ #[29, 29] 29 #[v, .slice (some ⟨g, 0, none⟩) 1 1]).run Try.prog W = .ok (.slice (some A) n c) w' ∧ OwC w' 0 (.slice (some A) n c) (xs ++ [x]) ∧ W.grownBy w' v.ownBlock ∧ ∀ b, (Value.slice (some A) n c).ownBlock = some b → v.ownBlock = some b ∨ W.heap.size ≤ b := by
  obtain ⟨i0, hi, hz0, hz1, hz2⟩ := info_parts info32
  have hn2 : ∀ j u, (calsC [x])[j]? = some u → W.cell? ((⟨g, 0, none⟩ : Addr).add j) = some u := by
    intro j u hj
    rw [addr_add, Nat.zero_add]
    refine hx j u ?_
    simpa [calsC] using hj
  obtain ⟨v', w', hrun, r1, r2, r3⟩ := run_append_own (P := Try.prog) W 0 29 29 32 i0 _ 4 32 Try.underlying29 hi hz0 hz1 hz2 rfl (by decide) v xs.length (calsC xs) h ⟨g, 0, none⟩ 1 1 (calsC [x]) rfl hn2 calsC_one (by simp [maxLen]; omega) (by omega) (Nat.zero_le _)
  have hfr := app_fresh (P := Try.prog) W 0 29 29 32 i0 _ 4 32 Try.underlying29 hi hz0 hz1 hz2 v xs.length (calsC xs) h ⟨g, 0, none⟩ 1 1 (calsC [x]) (by omega) rfl hn2 calsC_one (by simp [maxLen]; omega) (by omega) hrun
  have ho : OwC w' 0 v' (xs ++ [x]) := by unfold OwC; rw [List.length_append, calsC_app]; exact r1
  rcases ho.2 with ⟨_, h0⟩ | ⟨g', cap, cur, rfl, _⟩
  · simp at h0
  · exact ⟨_, _, _, w', hrun, ho, r2, hfr⟩
theorem inB_there (n : Nat) (i : Int) : inB i 0 ((n : Int) - 1) = thereB n i := by
  unfold inB thereB
  congr 1
  exact decide_eq_decide.2 (by omega)
section
variable {w : World} {R : Nat} {t : TS} {l : List Cal} {m : RM}
theorem refis_calls (h : RLow w R t l m) (i : Int) (hn : t.n ≤ 6) : Calls Try.prog 52 #[.pointer (some ⟨R, 0, none⟩), .int .i64 i] w fun e w' => e = .returned (.bool (thereB t.n i)) ∧ w = w' := by
  have c0 := h.cells.1
  have CI := Lib.hid (in_calls i 0 ((t.n : Int) - 1) w)
  rw [inB_there] at CI
  have ws : IntKind.i64.wrap ((t.n : Int) - 1) = (t.n : Int) - 1 := IntWalk.i64_in _ (by omega)
  clear h
  go_enter Try.func52, Try.ntmps52
  go_wp2_with fail
  refine CI.out.mono ?_
  rintro e w1 ⟨rfl, rfl⟩
  go_wp2_with fail
  go_ret
  exact ⟨rfl, rfl⟩
def RinI (w : World) (t : TS) (st : Int) (u5 u6 : Value) (wr : World) : Prop := ∃ k : Nat, u6 = .int .i64 k ∧ k ≤ t.n ∧ Ow wr w.heap.size u5 (thoseF t.mood st k) ∧ Below w.heap.size w wr
set_option maxHeartbeats 4000000 in
theorem refin_calls (h : RLow w R t l m) (I : Inv t) (st : Int) : Calls Try.prog 46 #[.pointer (some ⟨R, 0, none⟩), .int .i64 st] w fun e w' => ∃ v, e = .returned v ∧ Ow w' w.heap.size v (thoseF t.mood st t.n) ∧ Below w.heap.size w w' := by
  have H := Lib.hid h
  have HI := Lib.hid I
  have hn6 := I.hn
  clear h I
  go_enter Try.func46, Try.ntmps46
  go_wp2_with fail
  go_loopw [5, 6] (fun u5 u6 wr => RinI w t st u5 u6 wr) (fun _ u6 _ => t.n - (intOf u6).toNat)
  case atStart => exact ⟨0, rfl, Nat.zero_le _, ow_new w _ (Nat.le_refl _), (Below.refl _ _).alloc (Nat.le_refl _) _⟩
  case round =>
    obtain ⟨k, rfl, hk, ho, hb⟩ := hrel
    have HO := Lib.hid ho
    have HB := Lib.hid hb
    have hL := H.out.below hb
    have c0 := hL.cells.1
    by_cases hlt : k < t.n
    · have d0 := hL.cS HI.out hlt
      obtain ⟨x, hx⟩ : ∃ x, x = t.m k := ⟨_, rfl⟩
      rw [← hx] at d0
      have hx' : t.mood.getD k 0 = x := hx.symm
      obtain ⟨A, n', c', w5, hrun, ho5, hb5⟩ := ow_push (k : Int) ho hb.size (by have := thoseF_len t.mood st k; omega)
      have HX := Lib.hid hx'
      have HRUN := Lib.hid hrun
      have HO5 := Lib.hid ho5
      have HB5 := Lib.hid (hb.trans hb5)
      have z1 : (0 : Int) ≤ (k : Int) ∧ (k : Int) < t.n := by omega
      clear hL hx hx' hrun ho5 hb5 ho hb
      by_cases hxm : x = st
      · subst hxm
        go_wp2_with (at_builtin; refine wpList_app rfl (.tmp 26) (.tmp 28) 36 36 rfl rfl _ _ rfl rfl HRUN.out ?_)
        go_roundw
        case rel => exact ⟨k + 1, by go_num, by omega, by unfold thoseF; rw [if_pos HX.out]; exact HO5.out, HB5.out⟩
        case measure => simp [intOf]; omega
      · go_wp2_with fail
        go_roundw
        case rel => exact ⟨k + 1, by go_num, by omega, by unfold thoseF; rw [if_neg (fun e => hxm (HX.out.symm.trans e))]; exact HO.out, HB.out⟩
        case measure => simp [intOf]; omega
    · have hkn : k = t.n := by omega
      subst hkn
      clear ho hb hL
      go_wp2_with fail
      go_ret
      exact ⟨_, rfl, HO.out, HB.out⟩
/-- The flight's slice, replaced. -/
theorem RLow.putF {w1 : World} {v' : Value} {l' : List Cal} (h : RLow w R t l m) (ho : OwC w1 0 v' l') (hg : w.grownBy w1 m.fv.ownBlock) (hn : ∀ g, v'.ownBlock = some g → m.fv.ownBlock = some g ∨ w.heap.size ≤ g) :
    RMv R t.n m w t l' { m with fv := v' } (w1.setCell ⟨R, 5, none⟩ v') := by
  have hTl := h.lt .T R rfl
  have hb : ∀ y g, rblk R t.n m y = some g → y ≠ .F → w1.heap[g]? = w.heap[g]? := fun y g hy hne => hg.block g (h.lt y g hy) (fun e => hne (h.inj y .F g hy e.symm))
  have hr : ∀ y g, rblk R t.n m y = some g → y ≠ .F → y ≠ .T → (w1.setCell ⟨R, 5, none⟩ v').heap[g]? = w.heap[g]? := fun y g hy h1 h2 => (heap_setCell_other w1 ⟨R, 5, none⟩ g _ (h.ne hy (y := .T) rfl h2)).trans (hb y g hy h1)
  have hk := heap_setCell_same w1 R 5 _ 80 v' ((hb .T R rfl (by simp)).trans h.hT)
  have hq : ∀ g, rblk R t.n { m with fv := v' } .F = some g → rblk R t.n m .F = some g ∨ w.heap.size ≤ g := fun g hg => hn g hg
  refine ⟨⟨hk, h.hS.same (hr .S _ rfl (by simp) (by simp)), h.hB.same (hr .B _ rfl (by simp) (by simp)), h.hV.same (hr .V _ rfl (by simp) (by simp)), fun a ha => (h.hK a ha).same (hr (.K a) _ (if_pos ha) (by simp) (by simp)), h.hQ.same fun g hg => hr .Q g hg (by simp) (by simp), ?_, ?_⟩, rfl, ?_, ?_⟩
  · refine ho.same fun g hg => heap_setCell_other w1 ⟨R, 5, none⟩ g _ ?_
    rintro rfl
    rcases hn _ hg with e | e
    · exact h.ne (x := .F) (y := .T) e rfl (by simp) rfl
    · exact absurd hTl (by simpa using e)
  · intro x y g hx hy
    by_cases e1 : x = .F
    · by_cases e2 : y = .F
      · rw [e1, e2]
      · subst e1
        have hy' : rblk R t.n m y = some g := by cases y <;> first | exact hy | exact absurd rfl e2
        rcases hq g hx with h3 | h3
        · exact absurd (h.inj y .F g hy' h3) e2
        · have := h.lt y g hy'; omega
    · have hx' : rblk R t.n m x = some g := by cases x <;> first | exact hx | exact absurd rfl e1
      by_cases e2 : y = .F
      · subst e2
        rcases hq g hy with h3 | h3
        · exact absurd (h.inj x .F g hx' h3) e1
        · have := h.lt x g hx'; omega
      · have hy' : rblk R t.n m y = some g := by cases y <;> first | exact hy | exact absurd rfl e2
        exact h.inj x y g hx' hy'
  · exact ((Off.refl _ _).grown hg (fun k hk => .inl ⟨.F, hk⟩)).setCell (p := ⟨R, 5, none⟩) ⟨.T, rfl⟩ v'
  · rintro g ⟨x, hx⟩
    by_cases e : x = .F
    · subst e
      exact (hq g hx).imp (fun h => ⟨_, h⟩) id
    · have hx' : rblk R t.n m x = some g := by cases x <;> first | exact hx | exact absurd rfl e
      exact .inl ⟨x, hx'⟩
/-- The queue's slice, replaced. -/
theorem RLow.putQ {w1 : World} {v' : Value} {q' : List Int} (h : RLow w R t l m) (ho : Ow w1 0 v' q') (hg : w.grownBy w1 m.qv.ownBlock) (hn : ∀ g, v'.ownBlock = some g → m.qv.ownBlock = some g ∨ w.heap.size ≤ g) :
    RMv R t.n m w { t with queue := q' } l { m with qv := v' } (w1.setCell ⟨R, 3, none⟩ v') := by
  have hTl := h.lt .T R rfl
  have hb : ∀ y g, rblk R t.n m y = some g → y ≠ .Q → w1.heap[g]? = w.heap[g]? := fun y g hy hne => hg.block g (h.lt y g hy) (fun e => hne (h.inj y .Q g hy e.symm))
  have hr : ∀ y g, rblk R t.n m y = some g → y ≠ .Q → y ≠ .T → (w1.setCell ⟨R, 3, none⟩ v').heap[g]? = w.heap[g]? := fun y g hy h1 h2 => (heap_setCell_other w1 ⟨R, 3, none⟩ g _ (h.ne hy (y := .T) rfl h2)).trans (hb y g hy h1)
  have hk := heap_setCell_same w1 R 3 _ 80 v' ((hb .T R rfl (by simp)).trans h.hT)
  have hq : ∀ g, rblk R t.n { m with qv := v' } .Q = some g → rblk R t.n m .Q = some g ∨ w.heap.size ≤ g := fun g hg => hn g hg
  refine ⟨⟨hk, h.hS.same (hr .S _ rfl (by simp) (by simp)), h.hB.same (hr .B _ rfl (by simp) (by simp)), h.hV.same (hr .V _ rfl (by simp) (by simp)), fun a ha => (h.hK a ha).same (hr (.K a) _ (if_pos ha) (by simp) (by simp)), ?_, h.hF.same fun g hg => hr .F g hg (by simp) (by simp), ?_⟩, rfl, ?_, ?_⟩
  · refine ho.same fun g hg => heap_setCell_other w1 ⟨R, 3, none⟩ g _ ?_
    rintro rfl
    rcases hn _ hg with e | e
    · exact h.ne (x := .Q) (y := .T) e rfl (by simp) rfl
    · exact absurd hTl (by simpa using e)
  · intro x y g hx hy
    by_cases e1 : x = .Q
    · by_cases e2 : y = .Q
      · rw [e1, e2]
      · subst e1
        have hy' : rblk R t.n m y = some g := by cases y <;> first | exact hy | exact absurd rfl e2
        rcases hq g hx with h3 | h3
        · exact absurd (h.inj y .Q g hy' h3) e2
        · have := h.lt y g hy'; omega
    · have hx' : rblk R t.n m x = some g := by cases x <;> first | exact hx | exact absurd rfl e1
      by_cases e2 : y = .Q
      · subst e2
        rcases hq g hy with h3 | h3
        · exact absurd (h.inj x .Q g hx' h3) e1
        · have := h.lt x g hx'; omega
      · have hy' : rblk R t.n m y = some g := by cases y <;> first | exact hy | exact absurd rfl e2
        exact h.inj x y g hx' hy'
  · exact ((Off.refl _ _).grown hg (fun k hk => .inl ⟨.Q, hk⟩)).setCell (p := ⟨R, 3, none⟩) ⟨.T, rfl⟩ v'
  · rintro g ⟨x, hx⟩
    by_cases e : x = .Q
    · subst e
      exact (hq g hx).imp (fun h => ⟨_, h⟩) id
    · have hx' : rblk R t.n m x = some g := by cases x <;> first | exact hx | exact absurd rfl e
      exact .inl ⟨x, hx'⟩
theorem RLow.setSent (h : RLow w R t l m) (v : Int) : RLow (w.setCell ⟨R, 6, none⟩ (.int .i64 v)) R { t with sent := v } l m :=
  h.setT 6 _ rfl rfl rfl rfl rfl rfl rfl rfl rfl rfl (h.hQ.same fun g hg => h.rest (x0 := .T) (p := ⟨R, 6, none⟩) rfl _ .Q g hg (by simp)) (h.hF.same fun g hg => h.rest (x0 := .T) (p := ⟨R, 6, none⟩) rfl _ .F g hg (by simp)) h.inj
theorem RLow.setHold (h : RLow w R t l m) (v : Int) : RLow (w.setCell ⟨R, 4, none⟩ (.int .i64 v)) R { t with holder := v } l m :=
  h.setT 4 _ rfl rfl rfl rfl rfl rfl rfl rfl rfl rfl (h.hQ.same fun g hg => h.rest (x0 := .T) (p := ⟨R, 4, none⟩) rfl _ .Q g hg (by simp)) (h.hF.same fun g hg => h.rest (x0 := .T) (p := ⟨R, 4, none⟩) rfl _ .F g hg (by simp)) h.inj
set_option maxHeartbeats 4000000 in
theorem refsend_calls (h : RLow w R t l m) (c : Cal) (hl : l.length ≤ 90000) (hs : 0 ≤ t.sent ∧ t.sent ≤ 100000) :
    Calls Try.prog 53 #[.pointer (some ⟨R, 0, none⟩), .agg #[.int .i64 c.1, .int .i64 c.2.1, .bool c.2.2.isTok, .int .i64 c.2.2.num]] w fun e w' => e = .returned (.tuple #[]) ∧ ∃ m', RMv R t.n m w { t with sent := t.sent + 1 } (l ++ [c]) m' w' := by
  obtain ⟨N, hN⟩ : ∃ N, N = w.heap.size := ⟨_, rfl⟩
  obtain ⟨W1, hW1⟩ : ∃ W, W = w.alloc (.cells #[.int .i64 c.1, .int .i64 c.2.1, .bool c.2.2.isTok, .int .i64 c.2.2.num] 32) := ⟨_, rfl⟩
  have hb1 : Below w.heap.size w W1 := by rw [hW1]; exact (Below.refl _ _).alloc (Nat.le_refl _) _
  have h1 := h.below hb1
  have hs1 : W1.heap.size = N + 1 := by rw [hW1, hN]; simp
  have hcl : ∀ j u, (calC c)[j]? = some u → W1.cell? ⟨N, j, none⟩ = some u := by
    intro j u hj
    rw [hW1, hN, World.cell?_alloc_at _ _ _ _ rfl]
    simpa [calC] using hj
  have y0 := hcl 0 _ rfl
  have y1 := hcl 1 _ rfl
  have y2 := hcl 2 _ rfl
  have y3 := hcl 3 _ rfl
  obtain ⟨W2, hW2⟩ : ∃ W, W = W1.alloc (.cells #[.int .i64 c.1, .int .i64 c.2.1, .bool c.2.2.isTok, .int .i64 c.2.2.num] 32) := ⟨_, rfl⟩
  have hb2 : Below W1.heap.size W1 W2 := by rw [hW2]; exact (Below.refl _ _).alloc (Nat.le_refl _) _
  have h2 := h1.below hb2
  obtain ⟨A, n', c', w3, hrun, ho3, hg3, hf3⟩ := owc_push2 (W := W2) (g := N + 1) c h2.hF (by omega) (by
    intro j u hj
    rw [hW2, World.cell?_alloc_at _ _ _ _ hs1.symm]
    simpa [calC] using hj)
  have m3 := h2.putF ho3 hg3 hf3
  have m0 : RMv R t.n m w t l m W2 := ((RMv.refl h).below hb1).below hb2
  have m4 := m0.trans m3
  obtain ⟨W4, hW4⟩ : ∃ W, W = w3.setCell ⟨R, 5, none⟩ (.slice (some A) n' c') := ⟨_, rfl⟩
  rw [← hW4] at m4
  have c5 : W1.cell? ⟨R, 5, none⟩ = some m.fv := h1.cells.2.2.2.2.2.1
  obtain ⟨pv, lv, kv, hfv⟩ : ∃ p n c, m.fv = Value.slice p n c := by
    obtain ⟨A, c, e, _⟩ := h.hF.rd
    exact ⟨_, _, _, e⟩
  rw [hfv] at c5
  rw [hW2, hfv, hW1, hN] at hrun
  rw [hW1] at c5
  have d5 : w3.cell? ⟨R, 5, none⟩ = some (.slice pv lv kv) := by
    rw [← hfv]
    exact (World.cell?_of_block (a := ⟨R, 5, none⟩) (hg3.block R (h2.lt .T R rfl) (fun e => h2.ne (x := .T) (y := .F) rfl e.symm (by simp) rfl))).trans h2.cells.2.2.2.2.2.1
  have f5 : w3.frozen? ⟨R, 5, none⟩ = false := (World.frozen?_of_block (a := ⟨R, 5, none⟩) (hg3.block R (h2.lt .T R rfl) (fun e => h2.ne (x := .T) (y := .F) rfl e.symm (by simp) rfl))).trans (h2.fT 5)
  have c6 : w3.cell? ⟨R, 6, none⟩ = some (.int .i64 t.sent) := (World.cell?_of_block (a := ⟨R, 6, none⟩) (hg3.block R (h2.lt .T R rfl) (fun e => h2.ne (x := .T) (y := .F) rfl e.symm (by simp) rfl))).trans h2.cells.2.2.2.2.2.2
  have f6 : w3.frozen? ⟨R, 6, none⟩ = false := (World.frozen?_of_block (a := ⟨R, 6, none⟩) (hg3.block R (h2.lt .T R rfl) (fun e => h2.ne (x := .T) (y := .F) rfl e.symm (by simp) rfl))).trans (h2.fT 6)
  obtain ⟨sn, hsn⟩ : ∃ sn, sn = t.sent := ⟨_, rfl⟩
  rw [← hsn] at hs c6
  have HMV : Hid (RMv R t.n m w { t with sent := sn + 1 } (l ++ [c]) { m with fv := .slice (some A) n' c' } (W4.setCell ⟨R, 6, none⟩ (.int .i64 (sn + 1)))) := m4.set ⟨.T, rfl⟩ _ (m4.low.setSent (sn + 1)) rfl
  have ws : IntKind.i64.wrap (sn + 1) = sn + 1 := IntWalk.i64_in _ (by omega)
  have HRUN := Lib.hid hrun
  have HW4 := Lib.hid hW4
  obtain ⟨ca, cb, cm⟩ := c
  obtain ⟨tb, htb⟩ : ∃ tb, tb = cm.isTok := ⟨_, rfl⟩
  obtain ⟨no, hno⟩ : ∃ no, no = cm.num := ⟨_, rfl⟩
  simp only at c5 HRUN ⊢
  rw [← htb] at c5 HRUN ⊢
  rw [← hno] at c5 HRUN ⊢
  clear h h1 h2 hW1 hW2 hW4 hrun ho3 hg3 hf3 m3 m0 m4 hb1 hb2 hcl hN hfv htb hno y0 y1 y2 y3 hs1
  have HSN := Lib.hid hsn
  clear hsn
  go_enter Try.func53, Try.ntmps53
  go_wp2_with (at_builtin; refine wpList_app rfl (.tmp 10) (.tmp 12) 29 29 rfl rfl _ _ rfl rfl HRUN.out ?_)
  go_end0
  have hW4 := HW4.out
  rw [← hW4, ← HSN.out]
  exact ⟨rfl, _, HMV.out⟩
set_option maxHeartbeats 4000000 in
theorem refpass_calls (h : RLow w R t l m) (a b : Nat) (hl : l.length ≤ 90000) (hs : 0 ≤ t.sent ∧ t.sent ≤ 100000) :
    Calls Try.prog 57 #[.pointer (some ⟨R, 0, none⟩), .int .i64 a, .int .i64 b] w fun e w' => e = .returned (.tuple #[]) ∧ ∃ m', RMv R t.n m w { t with holder := -1, sent := t.sent + 1 } (l ++ [(a, b, .tok)]) m' w' := by
  obtain ⟨w1, hw1⟩ : ∃ w1, w1 = w.setCell ⟨R, 4, none⟩ (.int .i64 (-1)) := ⟨_, rfl⟩
  have m1 : RMv R t.n m w { t with holder := -1 } l m w1 := by rw [hw1]; exact (RMv.refl h).set ⟨.T, rfl⟩ _ (h.setHold (-1)) rfl
  have CS : Hid (Calls Try.prog 53 #[.pointer (some ⟨R, 0, none⟩), .agg #[.int .i64 a, .int .i64 b, .bool true, .int .i64 0]] w1 fun e w' => e = .returned (.tuple #[]) ∧ ∃ m', RMv R t.n m w { t with holder := -1, sent := t.sent + 1 } (l ++ [(a, b, .tok)]) m' w') := by
    refine (refsend_calls m1.low (a, b, .tok) hl hs).mono ?_
    rintro e w' ⟨he, m', hm⟩
    exact ⟨he, m', m1.trans hm⟩
  have c4 := h.cells.2.2.2.2.1
  have f4 := h.fT 4
  have HW := Lib.hid hw1
  obtain ⟨hd, hhd⟩ : ∃ hd, hd = t.holder := ⟨_, rfl⟩
  rw [← hhd] at c4
  clear h m1 hw1 hhd
  go_enter Try.func57, Try.ntmps57
  go_wp2_with fail
  have hw1 := HW.out
  rw [← hw1]
  clear hw1
  refine CS.out.mono ?_
  rintro e w2 ⟨rfl, m', hm⟩
  have HM := Lib.hid hm
  clear hm CS
  go_wp2_with fail
  go_end0
  exact ⟨rfl, m', HM.out⟩
end
end Go.Proofs.Ytahjgdikjaakbaa
