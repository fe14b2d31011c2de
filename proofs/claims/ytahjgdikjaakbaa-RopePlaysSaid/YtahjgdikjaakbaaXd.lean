/- What is proved: the reference's Leave. No condition beyond those in each statement. -/
import Derived.Test.YtahjgdikjaakbaaXc
import Derived.Test.YtahjgdikjaakbaaZC
import Derived.StillTailTactics
import Derived.BigQuiet
namespace Go.Proofs.Ytahjgdikjaakbaa
open Go.RowKit

/-- An append of one number. -/
theorem ow_push2 {W : World} {v : Value} {xs : List Int} {g : Nat} (x : Int) (h : Ow W 0 v xs) (hl : xs.length ≤ 100000) (hx : W.cell? ⟨g, 0, none⟩ = some (.int .i64 x)) :
    ∃ A n c w', (Builtin.append_ #[36, 36] 36 #[v, .slice (some ⟨g, 0, none⟩) 1 1]).run Try.prog W = .ok (.slice (some A) n c) w' ∧ Ow w' 0 (.slice (some A) n c) (xs ++ [x]) ∧ W.grownBy w' v.ownBlock ∧ ∀ b, (Value.slice (some A) n c).ownBlock = some b → v.ownBlock = some b ∨ W.heap.size ≤ b := by
  obtain ⟨i0, hi, hz0, hz1, hz2⟩ := info_parts info3'
  have hn2 : ∀ j u, ([.int .i64 x] : List Value)[j]? = some u → W.cell? ((⟨g, 0, none⟩ : Addr).add j) = some u := by
    intro j u hj
    rw [addr_add, Nat.zero_add]
    cases j with
    | zero => cases hj; exact hx
    | succ j => simp at hj
  have h1 : ∀ u ∈ ([.int .i64 x] : List Value), u.oneCell' = true := by intro u hu; simp at hu; subst hu; rfl
  obtain ⟨v', w', hrun, r1, r2, r3⟩ := run_append_own (P := Try.prog) W 0 36 36 3 i0 _ 1 8 Try.underlying36 hi hz0 hz1 hz2 rfl (by decide) v xs.length (xs.map (Value.int .i64)) h ⟨g, 0, none⟩ 1 1 [.int .i64 x] rfl hn2 h1 (by simp [maxLen]; omega) (by omega) (Nat.zero_le _)
  have hfr := app_fresh (P := Try.prog) W 0 36 36 3 i0 _ 1 8 Try.underlying36 hi hz0 hz1 hz2 v xs.length (xs.map (Value.int .i64)) h ⟨g, 0, none⟩ 1 1 [.int .i64 x] (by omega) rfl hn2 h1 (by simp [maxLen]; omega) (by omega) hrun
  have ho : Ow w' 0 v' (xs ++ [x]) := by unfold Ow; rw [List.length_append, List.map_append]; exact r1
  rcases ho.2 with ⟨_, h0⟩ | ⟨g', cap, cur, rfl, _⟩
  · simp at h0
  · exact ⟨_, _, _, w', hrun, ho, r2, hfr⟩
/-- append([]int{}, xs...). -/
theorem ow_copy (w : World) {W : World} {A : Addr} {xs : List Int} {c : Nat} (hl : xs.length ≤ 100000) (hW : W = w.alloc (.cells #[] 3)) (hx : ∀ (j : Nat), j < xs.length → W.cell? (A.add j) = some (.int .i64 (xs.getD j 0))) :
    ∃ A' n' c' w', (Builtin.append_ #[36, 36] 36 #[.slice (some ⟨w.heap.size, 0, none⟩) 0 0, .slice (some A) xs.length c]).run Try.prog W = .ok (.slice (some A') n' c') w' ∧ Ow w' w.heap.size (.slice (some A') n' c') xs ∧ Below w.heap.size w w' := by
  obtain ⟨i0, hi, hz0, hz1, hz2⟩ := info_parts info3'
  subst hW
  have h := ow_new w w.heap.size (Nat.le_refl _)
  have hn2 : ∀ j u, (xs.map (Value.int .i64))[j]? = some u → (w.alloc (.cells #[] 3)).cell? (A.add j) = some u := by
    intro j u hj
    obtain ⟨hj1, _⟩ := List.getElem?_eq_some_iff.1 hj
    rw [List.length_map] at hj1
    rw [hx j hj1]
    rw [List.getElem?_map, List.getElem?_eq_getElem hj1] at hj
    rw [List.getD_eq_getElem?_getD, List.getElem?_eq_getElem hj1]
    exact hj
  have h1 : ∀ u ∈ xs.map (Value.int .i64), u.oneCell' = true := by intro u hu; obtain ⟨x, _, rfl⟩ := List.mem_map.1 hu; rfl
  obtain ⟨v', w', hrun, r1, r2, r3⟩ := run_append_own (P := Try.prog) (w.alloc (.cells #[] 3)) w.heap.size 36 36 3 i0 _ 1 8 Try.underlying36 hi hz0 hz1 hz2 rfl (by decide) _ 0 [] h A xs.length c (xs.map (Value.int .i64)) (by simp) hn2 h1 (by simp [maxLen]; omega) (by omega) (by simp)
  have ho : Ow w' w.heap.size v' xs := by unfold Ow; rw [Nat.zero_add, List.nil_append] at r1; exact r1
  have hB : Below w.heap.size w w' := ((Below.refl _ _).alloc (Nat.le_refl _) _).grown r2 (by simp) (fun k hk => by cases hk; exact Nat.le_refl _)
  rcases ho.2 with ⟨e, _⟩ | ⟨g', cap, cur, rfl, _⟩
  · rcases r3.1 e with ⟨e2, _⟩; cases e2
  · exact ⟨_, _, _, w', hrun, ho, hB⟩
/-- The token goes to the queue's first. -/
def tokL (l : List Cal) (a : Nat) : List Int → List Cal
  | [] => l
  | to :: _ => l ++ [(a, to.toNat, .tok)]
/-- The messages after Leave. -/
def TS.leaveL (t : TS) (l : List Cal) (i : Int) : List Cal := if thereB t.n i = true then (if t.m i.toNat = 2 then tokL l i.toNat (t.left i.toNat).queue else l) else l
section
variable {w w' : World} {R n : Nat} {t : TS} {l : List Cal} {m m' : RM}
/-- Under way in Leave's loop. -/
def RlI (R : Nat) (m : RM) (w : World) (n : Nat) (t1 : TS) (kn : List Int) (l : List Cal) (v : Value) (wr : World) : Prop := ∃ (k : Nat) (m' : RM), v = .int .i64 k ∧ k ≤ n ∧ RMv R n m w { t1 with queue := queG kn t1.served t1.queue k } l m' wr
theorem RMv.fwd {t' : TS} {l' : List Cal} {v' : Value} {q' : List Int} {w0 w1 : World} (h : RMv R n m w t' l' m' w') (hb : Below w'.heap.size w' w0) (ho : Ow w1 0 v' q') (hg : w0.grownBy w1 m'.qv.ownBlock) (hn : ∀ g, v'.ownBlock = some g → m'.qv.ownBlock = some g ∨ w0.heap.size ≤ g) : RMv R n m w { t' with queue := q' } l' { m' with qv := v' } (w1.setCell ⟨R, 3, none⟩ v') :=
  (h.below hb).step ((h.low.below hb).putQ ho hg hn)
theorem queG_len (kn sv q : List Int) (k : Nat) : (queG kn sv q k).length ≤ q.length + k := by
  induction k with
  | zero => exact Nat.le_refl _
  | succ k ih => unfold queG; split; rw [List.length_append, List.length_singleton]; omega; omega
theorem any_mem (l : List Int) (x : Int) : (l.any fun u => u == x) = decide (x ∈ l) := by
  induction l with
  | nil => rfl
  | cons a l ih =>
    rw [List.any_cons, ih]
    by_cases h : a = x
    · subst h; simp
    · have h2 : (a == x) = false := by simpa using h
      have h3 : decide (x ∈ a :: l) = decide (x ∈ l) := decide_eq_decide.2 ⟨fun e => (List.mem_cons.1 e).resolve_left (fun e => h e.symm), fun e => List.mem_cons_of_mem _ e⟩
      rw [h2, h3, Bool.false_or]
theorem RLow.setV' (h : RLow w R t l m) (ls : t.served.length = t.n) {i : Nat} (hi : i < t.n) (v : Int) : RLow (w.setCell ⟨m.SV, i, none⟩ (.int .i64 v)) R { t with served := t.served.set i v } l m := by
  have hr := h.rest (x0 := .V) (p := ⟨m.SV, i, none⟩) rfl (.int .i64 v)
  refine ⟨(hr .T _ rfl (by simp)).trans h.hT, h.hS.same (hr .S _ rfl (by simp)), h.hB.same (hr .B _ rfl (by simp)), ?_, fun a ha => (h.hK a ha).same (hr (.K a) _ (if_pos ha) (by simp)), h.hQ.same fun g hg => hr .Q g hg (by simp), h.hF.same fun g hg => hr .F g hg (by simp), h.inj⟩
  have := h.hV.set i (by rw [intsV_len, ls]; exact hi) (.int .i64 v)
  rw [Nat.zero_add, intsV_set] at this
  exact this
theorem RLow.cV' (h : RLow w R t l m) (ls : t.served.length = t.n) {i : Nat} (hi : i < t.n) : w.cell? ⟨m.SV, i, none⟩ = some (.int .i64 (t.served.getD i 0)) := by
  have := row_int h.hV (i := i) (by rw [ls]; exact hi)
  rw [Nat.zero_add] at this
  exact this
theorem RLow.cK' (h : RLow w R t l m) {i j : Nat} (hi : i < t.n) (lk : (t.known.getD i []).length = t.n) (hj : j < t.n) : w.cell? ⟨m.K i, j, none⟩ = some (.int .i64 ((t.known.getD i []).getD j 0)) := by
  have := row_int (h.hK i hi) (i := j) (by rw [lk]; exact hj)
  rw [Nat.zero_add] at this
  exact this
/-- What of the tower Leave's loop reads. -/
structure Lv1 (t t1 : TS) (a : Nat) (kn : List Int) (kb : Nat) : Prop where
  en : t1.n = t.n
  ek : t1.known = t.known
  es : t1.served = t.served.set a (t.k a a)
  ls : t1.served.length = t.n
  lk : (t1.known.getD a []).length = t.n
  kn : t1.known.getD a [] = kn
  sb : ∀ k, k < t.n → 0 ≤ t1.served.getD k 0 ∧ t1.served.getD k 0 ≤ kb
  qu : t1.queue = t.queue
  se : t1.sent = t.sent
  ql : t.queue.length ≤ t.n
  qm : ∀ x, x ∈ t.queue → ∃ a : Nat, x = a ∧ a < t.n
theorem Inv.ql (I : Inv t) : t.queue.length ≤ t.n := nodup_len t.n t.queue I.qn fun x hx => by obtain ⟨a, e, ha, _⟩ := I.qm x hx; exact ⟨a, e, ha⟩
theorem row_form {v : Value} {xs : List Int} {b : Nat} (h : Ow w b v xs) : ∃ p c, v = .slice p xs.length c ∧ xs.length ≤ c ∧ c ≤ 9223372036854775807 := by
  obtain ⟨A, c, e, h1, h2, _⟩ := h.sl
  exact ⟨A, c, e, h1, h2⟩
set_option maxRecDepth 100000 in
set_option maxHeartbeats 8000000 in
theorem refleave_calls {kb : Nat} (h : RLow w R t l m) (O : Ok t kb) (hkb : kb ≤ 10000) (hl : l.length ≤ 80000) (i : Int) :
    Calls Try.prog 35 #[.pointer (some ⟨R, 0, none⟩), .int .i64 i] w fun e w' => e = .returned (.int .i64 (t.leaveE i)) ∧ ∃ m', RMv R t.n m w (t.leaveI i) (t.leaveL l i) m' w' := by
  have I := O.1
  have hn6 := I.hn
  have C1 := Lib.hid (refis_calls h i hn6.2)
  unfold TS.leaveI TS.leaveE TS.leaveL
  by_cases ht : thereB t.n i = true
  · obtain ⟨a, rfl, ha⟩ := thereB_out ht
    rw [ht] at C1
    rw [if_pos ht, if_pos ht, if_pos ht, Int.toNat_natCast]
    have c0 := h.cells.1
    have c1 := h.cS I ha
    have z1 : (0 : Int) ≤ (a : Int) ∧ (a : Int) < t.n := by omega
    by_cases hm : t.m a = 2
    · rw [if_pos hm, if_pos hm, if_pos hm]
      rw [hm] at c1
      have f1 : w.frozen? ⟨m.S, a, none⟩ = false := h.hS.free a
      obtain ⟨y, hy⟩ : ∃ y, y = t.k a a := ⟨_, rfl⟩
      have hyb : 0 ≤ y ∧ y ≤ kb := by have h1 := I.kn a a ha ha; have h2 := O.2.kk a ha; omega
      have hsb := O.2.s0
      obtain ⟨w1, hw1⟩ : ∃ w1, w1 = w.setCell ⟨m.S, a, none⟩ (.int .i64 0) := ⟨_, rfl⟩
      have m1 : RMv R t.n m w { t with mood := t.mood.set a 0 } l m w1 := by rw [hw1]; exact (RMv.refl h).set ⟨.S, rfl⟩ _ (h.setM I ha 0) rfl
      have d1 : w1.cell? ⟨R, 1, none⟩ = some (.slice (some ⟨m.KB, 0, none⟩) t.n m.kc) := m1.low.cells.2.1
      have d2 : w1.cell? ⟨m.KB, a, none⟩ = some (.slice (some ⟨m.K a, 0, none⟩) t.n t.n) := m1.low.cB ha
      have d3 : w1.cell? ⟨m.K a, a, none⟩ = some (.int .i64 y) := by
        have := m1.low.cK' ha (I.lki a ha) ha
        rw [this, hy]; rfl
      have d4 : w1.cell? ⟨R, 2, none⟩ = some (.slice (some ⟨m.SV, 0, none⟩) t.n t.n) := m1.low.cells.2.2.1
      have df : w1.frozen? ⟨m.SV, a, none⟩ = false := m1.low.hV.free a
      obtain ⟨y0, d5⟩ : ∃ y0, w1.cell? ⟨m.SV, a, none⟩ = some (.int .i64 y0) := ⟨_, m1.low.cV' I.ls ha⟩
      obtain ⟨w2, hw2⟩ : ∃ w2, w2 = (w1.setCell ⟨m.SV, a, none⟩ (.int .i64 y)).drew := ⟨_, rfl⟩
      obtain ⟨t1, ht1⟩ : ∃ t1, t1 = ({ t with mood := t.mood.set a 0, served := t.served.set a y } : TS) := ⟨_, rfl⟩
      have m2 : RMv R t.n m w t1 l m w2 := by
        rw [hw2, ht1]
        exact (m1.set ⟨.V, rfl⟩ _ (m1.low.setV' I.ls ha y) rfl).drewN 1
      obtain ⟨kn, hkn⟩ : ∃ kn, kn = t.known.getD a [] := ⟨_, rfl⟩
      have HT1 : Hid (Lv1 t t1 a kn kb ∧ ({ t1 with queue := queG kn t1.served t1.queue t.n } : TS) = t.left a) := by
        refine ⟨⟨by rw [ht1], by rw [ht1], by rw [ht1, hy], by rw [ht1]; show (t.served.set a y).length = t.n; rw [List.length_set]; exact I.ls, by rw [ht1]; exact I.lki a ha, by rw [ht1, hkn], ?_, by rw [ht1], by rw [ht1], I.ql, fun x hx => ?_⟩, ?_⟩
        · intro k hk
          rw [ht1]
          show 0 ≤ (t.served.set a y).getD k 0 ∧ (t.served.set a y).getD k 0 ≤ kb
          rw [getD_set _ _ _ _ _ (by rw [I.ls]; exact ha)]
          split
          · omega
          · have h1 := I.sv0 k hk
            have h2 := O.2.kk k hk
            unfold TS.s at h1
            omega
        · obtain ⟨b, e, hb, _⟩ := I.qm x hx
          exact ⟨b, e, hb⟩
        · rw [ht1, hkn, hy]; rfl
      have HM2 := Lib.hid m2
      have HW1 := Lib.hid hw1
      have HW2 := Lib.hid hw2
      clear h O I ht hm m1 m2 hw2 ht1 hy hkn
      go_enter Try.func35, Try.ntmps35
      go_wp2_with fail
      refine C1.out.mono ?_
      rintro e w3 ⟨rfl, rfl⟩
      go_wp2_with fail
      rw [← hw1]
      clear hw1 HW1
      go_still_tail 16, (by kernel_rfl)
      change wpList _ _ _ _ _ w1.drew
      go_wp2_with fail
      have hw2 := HW2.out
      rw [← hw2]
      clear hw2 HW2 d1 d2 d3 d4 df d5
      go_simp
      go_loopw [5, 6] (fun v v6 wr => RlI R m w t.n t1 kn l v wr) (fun v _ _ => t.n - (intOf v).toNat)
      case atStart => exact ⟨0, m, rfl, Nat.zero_le _, HM2.out⟩
      case round =>
        clear c1 f1
        obtain ⟨k, m', rfl, hk, hmv⟩ := hrel
        have L1 := HT1.out.1
        obtain ⟨Q, hQ⟩ : ∃ Q, Q = queG kn t1.served t1.queue k := ⟨_, rfl⟩
        rw [← hQ] at hmv
        have hQl : Q.length ≤ 12 := by have := queG_len kn t1.served t1.queue k; rw [hQ]; rw [L1.qu] at this ⊢; have := L1.ql; omega
        obtain ⟨p, c, hqv, hc1, hc2⟩ := row_form hmv.low.hQ
        have e0 : wr.cell? ⟨R, 0, none⟩ = some (.slice (some ⟨m'.S, 0, none⟩) t.n t.n) := by
          have := hmv.low.cells.1
          rw [hmv.en] at this
          exact this
        have e3 : wr.cell? ⟨R, 3, none⟩ = some (.slice p Q.length c) := by rw [← hqv]; exact hmv.low.cells.2.2.2.1
        by_cases hlt : k < t.n
        · have hk1 : k < t1.n := by rw [L1.en]; exact hlt
          have ha1 : a < t1.n := by rw [L1.en]; exact ha
          have e1 : wr.cell? ⟨R, 1, none⟩ = some (.slice (some ⟨m'.KB, 0, none⟩) t.n m'.kc) := by
            have := hmv.low.cells.2.1
            rw [hmv.en] at this
            exact this
          have e2 : wr.cell? ⟨R, 2, none⟩ = some (.slice (some ⟨m'.SV, 0, none⟩) t.n t.n) := by
            have := hmv.low.cells.2.2.1
            rw [hmv.en] at this
            exact this
          have e4 : wr.cell? ⟨m'.KB, a, none⟩ = some (.slice (some ⟨m'.K a, 0, none⟩) t.n t.n) := by
            have := hmv.low.cB (i := a) ha1
            rw [hmv.en] at this
            exact this
          obtain ⟨x, hx⟩ : ∃ x, x = kn.getD k 0 := ⟨_, rfl⟩
          obtain ⟨z, hz⟩ : ∃ z, z = t1.served.getD k 0 := ⟨_, rfl⟩
          have e5 : wr.cell? ⟨m'.K a, k, none⟩ = some (.int .i64 x) := by
            have := hmv.low.cK' (i := a) (j := k) ha1 (by show (t1.known.getD a []).length = t1.n; rw [L1.lk, L1.en]) hk1
            rw [this]
            show some (Value.int .i64 ((t1.known.getD a []).getD k 0)) = _
            rw [L1.kn, hx]
          have e6 : wr.cell? ⟨m'.SV, k, none⟩ = some (.int .i64 z) := by
            have := hmv.low.cV' (i := k) (by show t1.served.length = t1.n; rw [L1.ls, L1.en]) hk1
            rw [this, hz]
          have hzb : 0 ≤ z ∧ z ≤ kb := by rw [hz]; exact L1.sb k hlt
          have ws : IntKind.i64.wrap (z + 1) = z + 1 := IntWalk.i64_in _ (by omega)
          have zk : (0 : Int) ≤ (k : Int) ∧ (k : Int) < t.n := by omega
          have CH : Hid (∀ q, Calls Try.prog 20 #[.slice p Q.length c, .int .i64 k] (wr.drewN q) fun e w' => e = .returned (.bool (decide ((k : Int) ∈ Q))) ∧ wr.drewN q = w') := by
            intro q
            have := (hmv.low.hQ.below (below_drewN (Below.refl _ _) q)).sl
            rw [hqv] at this
            refine (hasV this k).mono ?_
            rw [any_mem]
            exact fun _ _ h => h
          have HMV := Lib.hid hmv
          have HX := Lib.hid hx
          have HZ := Lib.hid hz
          have HQ := Lib.hid hQ
          have HQV := Lib.hid hqv
          by_cases hin : (k : Int) ∈ Q
          · rw [decide_eq_true hin] at CH
            have HIN := Lib.hid hin
            clear hmv hx hz hQ hqv hin
            go_wp2_with fail
            go_quiet ((go_at_call 20; exact Calls.quiet_of_same ((CH.out _).mono fun e w' h => ⟨h.1, h.2.symm⟩)))
            clear e1 e2 e4 e5 e6 CH
            go_wp2_with fail
            go_roundw
            case rel =>
              refine ⟨k + 1, m', by go_num, by omega, ?_⟩
              have hq : queG kn t1.served t1.queue (k + 1) = Q := by
                unfold queG
                rw [if_neg (fun h => h.2 (by rw [← HQ.out]; exact HIN.out)), HQ.out]
              rw [hq]
              exact HMV.out.drewN nq
            case measure => simp [intOf]; omega
          · rw [decide_eq_false hin] at CH
            have HIN := Lib.hid hin
            by_cases hask : x = z + 1
            · have HASK := Lib.hid hask
              have HP : Hid (∀ q, ∃ A n' c' w5, (Builtin.append_ #[36, 36] 36 #[.slice p Q.length c, .slice (some ⟨wr.heap.size, 0, none⟩) 1 1]).run Try.prog ((wr.drewN q).alloc (.cells #[.int .i64 k] 3)) = .ok (.slice (some A) n' c') w5 ∧
                  RMv R t.n m w { t1 with queue := Q ++ [(k : Int)] } l { m' with qv := .slice (some A) n' c' } (w5.setCell ⟨R, 3, none⟩ (.slice (some A) n' c')) ∧ w5.cell? ⟨R, 3, none⟩ = some (.slice p Q.length c) ∧ w5.frozen? ⟨R, 3, none⟩ = false) := by
                intro q
                have hm1 := hmv.drewN q
                have hb1 : Below (wr.drewN q).heap.size (wr.drewN q) ((wr.drewN q).alloc (.cells #[.int .i64 k] 3)) := (Below.refl _ _).alloc (Nat.le_refl _) _
                have hL := hm1.low.below hb1
                have hsz : (wr.drewN q).heap.size = wr.heap.size := by simp
                obtain ⟨A, n', c', w5, hrun, ho5, hg5, hf5⟩ := ow_push2 (W := (wr.drewN q).alloc (.cells #[.int .i64 k] 3)) (g := wr.heap.size) (k : Int) hL.hQ (by show Q.length ≤ 100000; omega) (by rw [World.cell?_alloc_at _ _ _ _ hsz.symm]; rfl)
                refine ⟨A, n', c', w5, by rw [← hqv]; exact hrun, hm1.fwd hb1 ho5 hg5 hf5, ?_, ?_⟩
                · have hT := hg5.block R (hL.lt .T R rfl) (fun e => hL.ne (x := .T) (y := .Q) rfl e.symm (by simp) rfl)
                  rw [World.cell?_of_block (a := ⟨R, 3, none⟩) hT, ← hqv]
                  exact hL.cells.2.2.2.1
                · have hT := hg5.block R (hL.lt .T R rfl) (fun e => hL.ne (x := .T) (y := .Q) rfl e.symm (by simp) rfl)
                  rw [World.frozen?_of_block (a := ⟨R, 3, none⟩) hT]
                  exact hL.fT 3
              clear hmv hx hz hQ hqv hin
              go_wp2_with fail
              go_quiet ((go_at_call 20; exact Calls.quiet_of_same ((CH.out _).mono fun e w' h => ⟨h.1, h.2.symm⟩)))
              obtain ⟨A, n', c', w5, hrun, hm5, g3, gf⟩ := HP.out nq
              have HRUN := Lib.hid hrun
              have HM5 := Lib.hid hm5
              clear e1 e2 e4 e5 e6 CH hrun hm5 hask HP
              go_wp2_with (at_builtin; refine wpList_app rfl (.tmp 81) (.tmp 83) 36 36 rfl rfl _ _ rfl rfl HRUN.out ?_)
              go_roundw
              case rel =>
                refine ⟨k + 1, { m' with qv := .slice (some A) n' c' }, by go_num, by omega, ?_⟩
                have hq : queG kn t1.served t1.queue (k + 1) = Q ++ [(k : Int)] := by
                  unfold queG
                  rw [if_pos ⟨by rw [← HX.out, ← HZ.out]; exact HASK.out, by rw [← HQ.out]; exact HIN.out⟩, HQ.out]
                rw [hq]
                exact HM5.out
              case measure => simp [intOf]; omega
            · have HASK := Lib.hid hask
              have hd : decide (x = z + 1) = false := decide_eq_false hask
              clear hmv hx hz hQ hqv hin
              go_wp2_with fail
              go_quiet ((go_at_call 20; exact Calls.quiet_of_same ((CH.out _).mono fun e w' h => ⟨h.1, h.2.symm⟩)))
              clear e1 e2 e4 e5 e6 CH
              go_wp2_with fail
              go_roundw
              case rel =>
                refine ⟨k + 1, m', by go_num, by omega, ?_⟩
                have hq : queG kn t1.served t1.queue (k + 1) = Q := by
                  unfold queG
                  rw [if_neg (fun h => HASK.out (by rw [HX.out, HZ.out]; exact h.1)), HQ.out]
                rw [hq]
                exact HMV.out.drewN nq
              case measure => simp [intOf]; omega
        · have hkn : k = t.n := by omega
          subst hkn
          have hQm : ∀ x, x ∈ Q → ∃ b : Nat, x = b ∧ b < t.n := by
            intro x hx
            rw [hQ] at hx
            rcases (queG_mem _ _ _ _ x).1 hx with h1 | ⟨b, hb, e, _⟩
            · rw [L1.qu] at h1; exact L1.qm x h1
            · exact ⟨b, e, hb⟩
          have hLQ : ({ t1 with queue := Q } : TS) = t.left a := by rw [hQ]; exact HT1.out.2
          rw [hLQ] at hmv
          have hleft : (t.left a).queue = Q := by rw [← hLQ]
          have hsent : (t.left a).sent = t.sent := rfl
          have hlen : (t.left a).n = t.n := rfl
          clear hQ hLQ
          cases Q with
          | nil =>
            have HMV := Lib.hid hmv
            have HLE := Lib.hid hleft
            replace e3 : wr.cell? ⟨R, 3, none⟩ = some (.slice p 0 c) := e3
            clear hmv hleft hqv L1 hQm hsent
            go_wp2_with fail
            go_ret
            refine ⟨rfl, m', ?_⟩
            unfold TS.leave
            rw [HLE.out]
            unfold tokL
            exact HMV.out
          | cons x rest =>
            obtain ⟨to, rfl, hto⟩ := hQm x (List.mem_cons_self ..)
            have hq2 : ∃ g, p = some ⟨g, 0, none⟩ ∧ ∀ j, j < rest.length + 1 → wr.cell? ⟨g, j, none⟩ = some (.int .i64 (((to : Int) :: rest).getD j 0)) := by
              have h1 := hmv.low.hQ
              rw [hleft] at h1
              rcases h1.2 with ⟨_, e⟩ | ⟨g, cap, cur, e, _⟩
              · simp at e
              · refine ⟨g, ?_, fun j hj => ?_⟩
                · rw [hqv] at e
                  injection e
                · have := World.ownsRow.cells (g := g) h1 (by rw [e]; rfl) j (.int .i64 (((to : Int) :: rest).getD j 0)) (by rw [List.getElem?_map, List.getElem?_eq_getElem (by simpa using hj), List.getD_eq_getElem?_getD, List.getElem?_eq_getElem (by simpa using hj)]; rfl)
                  rw [addr_add, Nat.zero_add] at this
                  exact this
            obtain ⟨g, rfl, hcel⟩ := hq2
            replace e3 : wr.cell? ⟨R, 3, none⟩ = some (.slice (some ⟨g, 0, none⟩) (rest.length + 1) c) := e3
            have c4 : wr.cell? ⟨g, 0, none⟩ = some (.int .i64 to) := hcel 0 (by omega)
            have hc3 : rest.length + 1 ≤ c := hc1
            have hrl : rest.length ≤ 12 := by have h2 : rest.length + 1 ≤ 12 := hQl; omega
            have hb1 : Below wr.heap.size wr (wr.alloc (.cells #[] 3)) := (Below.refl _ _).alloc (Nat.le_refl _) _
            have hgl : g < wr.heap.size := World.block_lt_of_cell? _ _ c4
            have HP : Hid (∀ p2 k2, (rest.length = 0 ∨ p2 = ⟨g, 1, none⟩) → ∃ A n' c' w5, (Builtin.append_ #[36, 36] 36 #[.slice (some ⟨wr.heap.size, 0, none⟩) 0 0, .slice (some p2) rest.length k2]).run Try.prog (wr.alloc (.cells #[] 3)) = .ok (.slice (some A) n' c') w5 ∧ w5.cell? ⟨R, 3, none⟩ = some (.slice (some ⟨g, 0, none⟩) (rest.length + 1) c) ∧ w5.frozen? ⟨R, 3, none⟩ = false ∧
                Calls Try.prog 57 #[.pointer (some ⟨R, 0, none⟩), .int .i64 a, .int .i64 to] (w5.setCell ⟨R, 3, none⟩ (.slice (some A) n' c')) fun e w' => e = .returned (.tuple #[]) ∧ ∃ m2, RMv R t.n m w (t.leave a) (tokL l a (t.left a).queue) m2 w') := by
              intro p2 k2 hp2
              obtain ⟨A, n', c', w5, hrun, ho5, hb5⟩ := ow_copy wr (W := wr.alloc (.cells #[] 3)) (A := p2) (xs := rest) (c := k2) (by omega) rfl (by
                intro j hj
                rcases hp2 with e | rfl
                · omega
                · rw [addr_add, hb1.cell (p := ⟨g, 1 + j, none⟩) hgl, hcel _ (by omega), show 1 + j = j + 1 by omega]; rfl)
              have hRl := hmv.low.lt .T R rfl
              refine ⟨A, n', c', w5, hrun, (hb5.cell (p := ⟨R, 3, none⟩) hRl).trans e3, (World.frozen?_of_block (a := ⟨R, 3, none⟩) (hb5.block R hRl)).trans (hmv.low.fT 3), ?_⟩
              have m5 := hmv.step (hmv.low.putQ (ho5.mono (Nat.zero_le _)) ⟨hb5.os, hb5.tape, hb5.output, hb5.size, fun k hk _ => hb5.block k hk⟩ (fun b hb => .inr (World.ownsRow.lt ho5 b hb).1))
              refine (refpass_calls m5.low a to (by omega) (by show 0 ≤ t.sent ∧ t.sent ≤ 100000; omega)).mono ?_
              rintro e w' ⟨he, m2, hm2⟩
              refine ⟨he, m2, ?_⟩
              have hlv : t.leave a = ((t.left a).qpop rest).give a to := by
                unfold TS.leave
                rw [hleft]
                rfl
              rw [hlv, hleft]
              exact (m5.step hm2).alk ⟨rfl, rfl, rfl, rfl, rfl, rfl, rfl⟩
            have e3a : (wr.alloc (.cells #[] 3)).cell? ⟨R, 3, none⟩ = some (.slice (some ⟨g, 0, none⟩) (rest.length + 1) c) := (hb1.cell (p := ⟨R, 3, none⟩) (hmv.low.lt .T R rfl)).trans e3
            clear hmv hleft hqv L1 hQm hsent hcel hb1 hgl
            have z3 : (0 : Int) ≤ 1 ∧ (1 : Int) ≤ rest.length + 1 ∧ (rest.length : Int) + 1 ≤ c := by omega
            by_cases hcc : c = 1
            · subst hcc
              have hr0 : rest.length = 0 := by omega
              obtain ⟨A, n', c', w5, hrun, g3, gf, hC⟩ := HP.out ⟨g, 0, none⟩ 0 (.inl hr0)
              rw [hr0] at e3 hrun g3 e3a
              have HRUN := Lib.hid hrun
              have HC := Lib.hid hC
              clear hrun hC HP
              go_wp2_with (at_builtin; refine wpList_app rfl (.tmp 100) (.tmp 105) 36 36 rfl rfl _ _ rfl rfl HRUN.out ?_)
              refine HC.out.mono ?_
              rintro e w6 ⟨rfl, m2, hm2⟩
              have HM6 := Lib.hid hm2
              clear hm2
              go_wp2_with fail
              go_ret
              exact ⟨rfl, m2, HM6.out⟩
            · obtain ⟨A, n', c', w5, hrun, g3, gf, hC⟩ := HP.out ⟨g, 1, none⟩ (c - 1) (.inr rfl)
              have HRUN := Lib.hid hrun
              have HC := Lib.hid hC
              clear hrun hC HP
              go_wp2_with (at_builtin; refine wpList_app rfl (.tmp 100) (.tmp 105) 36 36 rfl rfl _ _ rfl rfl HRUN.out ?_)
              refine HC.out.mono ?_
              rintro e w6 ⟨rfl, m2, hm2⟩
              have HM6 := Lib.hid hm2
              clear hm2
              go_wp2_with fail
              go_ret
              exact ⟨rfl, m2, HM6.out⟩
    · rw [if_neg hm, if_neg hm, if_neg hm]
      obtain ⟨x, hx⟩ : ∃ x, x = t.m a := ⟨_, rfl⟩
      rw [← hx] at c1 hm
      have HM := Lib.hid (RMv.refl h)
      clear h O I ht hx
      go_enter Try.func35, Try.ntmps35
      go_wp2_with fail
      refine C1.out.mono ?_
      rintro e w1 ⟨rfl, rfl⟩
      go_wp2_with fail
      go_ret
      exact ⟨rfl, m, HM.out⟩
  · rw [if_neg ht, if_neg ht, if_neg ht]
    have ht' : thereB t.n i = false := by simpa using ht
    rw [ht'] at C1
    have HM := Lib.hid (RMv.refl h)
    clear h O I ht ht'
    go_enter Try.func35, Try.ntmps35
    go_wp2_with fail
    refine C1.out.mono ?_
    rintro e w1 ⟨rfl, rfl⟩
    go_wp2_with fail
    go_ret
    exact ⟨rfl, m, HM.out⟩
end
end Go.Proofs.Ytahjgdikjaakbaa
