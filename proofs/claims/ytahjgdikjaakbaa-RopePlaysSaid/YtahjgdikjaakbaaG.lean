/- What is proved: send. No condition beyond those in each statement. -/
import Derived.Test.YtahjgdikjaakbaaF
namespace Go.Proofs.Ytahjgdikjaakbaa
open Go.RowKit

theorem upon_run {P : Program} {o : Oper} {a : Act} {K : Act → World → Prop} {Q : Exit → Act → World → Prop} {W : World} {act : Sem Value} {R : Value → World → Prop}
    (hrun : ∃ v w', act.run P W = .ok v w' ∧ R v w') (hK : ∀ v w', R v w' → Oper.upon P o a K Q (.ok (.value v) w')) : Oper.upon P o a K Q ((act.run P W).andThen fun a w' => .ok (.value a) w') := by
  obtain ⟨v, w', h1, h2⟩ := hrun
  rw [h1]
  exact hK v w' h2
theorem upon_entry {o : Oper} {a : Act} {K : Act → World → Prop} {Q : Exit → Act → World → Prop} {W : World} {M n i j : Nat} {F : Nat → Nat → Value} (HK : KeysOk Try.prog 68 n) (h : FlAt W M n F) (hi : i < n) (hj : j < n)
    (hK : ∀ (st : Nat) w', FlP w' M n F i j st → W.grownBy w' (some M) → Oper.upon Try.prog o a K Q (.ok (.value (.tuple #[F i j, goInt st])) w')) :
    Oper.upon Try.prog o a K Q (((Instr.mapEntry 62 (.map (some M)) (.agg #[.int .i64 i, .int .i64 j])).run Try.prog W).andThen fun a w' => .ok (.value a) w') := by
  obtain ⟨st, w', h1, h2, h3⟩ := fl_entry (k := 68) (e := 67) (t := 62) law68 Try.underlying62 HK (zero67 _) h hi hj
  have h1' : (Instr.mapEntry 62 (.map (some M)) (.agg #[.int .i64 i, .int .i64 j])).run Try.prog W = .ok (.tuple #[F i j, goInt st]) w' := h1
  rw [h1']
  exact hK st w' h2 h3
/-- An append at a step of a region of open order. -/
theorem step_app {P : Program} {W : World} {ops : Array Oper} {o : Oper} {a : Act} {K : Act → World → Prop} {Q : Exit → Act → World → Prop} {E : Prop} {R : Value → World → Prop} (hgd : o.guard = none) (s x : Operand) (t ty : TypeId)
    (ho : o.op = .call { callee := .builtin .append, args := #[s, x], argTypes := #[t, t] }) (hty : o.type = ty) (v1 v2 : Value) (hs : a.eval s = v1) (hx : a.eval x = v2)
    (hrun : ∃ v' w', (Builtin.append_ #[t, t] ty #[v1, v2]).run P W = .ok v' w' ∧ R v' w') (hK : ∀ v' w', R v' w' → K (a.put o.dst v') w') :
    if Region.wanted o (yielded ops a.tmps) = true then Oper.wp P o a W K Q else E := by
  have hw : Region.wanted o (yielded ops a.tmps) = true := by simp [Region.wanted, hgd]
  rw [if_pos hw]
  obtain ⟨v', w', hr, hR⟩ := hrun
  unfold Oper.wp
  simp [execOp, ho, hty, resolve, invoke, builtin, hs, hx, hr, Result.andThen]
  exact hK _ _ hR
def PushR (W : World) (v : Value) (xs : List Value) (x : Value) (v' : Value) (w' : World) : Prop := Sl1 w' 70 v' (xs ++ [x]) ∧ W.grownBy w' v.ownBlock ∧ ∃ g, v'.ownBlock = some g ∧ (v.ownBlock = some g ∨ W.heap.size ≤ g)
theorem msg_push {W : World} {v : Value} {xs : List Value} {g c : Nat} {x : Value} (h : Sl1 W 70 v xs) (hl : xs.length ≤ 100000) (hx : W.cell? ⟨g, 0, none⟩ = some x) (h1 : x.oneCell' = true) :
    ∃ v' w', (Builtin.append_ #[67, 67] 67 #[v, .slice (some ⟨g, 0, none⟩) 1 c]).run Try.prog W = .ok v' w' ∧ PushR W v xs x v' w' := by
  obtain ⟨i0, hi, hz0, hz1, hz2⟩ := info_parts info70
  obtain ⟨v', w', hr, h2, h3, h4⟩ := sl_push (P := Try.prog) W 67 67 70 i0 .nilIface Try.underlying67 hi hz0 hz1 (by omega) rfl h hl ⟨g, 0, none⟩ c x hx h1
  exact ⟨v', w', hr, h2, h3, h4⟩
def Cel (w : World) (b : Nat) (v : Value) : Prop := b < w.heap.size ∧ w.cell? ⟨b, 0, none⟩ = some v
theorem cel_new (w : World) (b : Nat) (v : Value) (t : Nat) (hb : w.heap.size = b) : Cel (w.alloc (.cells #[v] t)) b v := hb ▸ ⟨by simp, World.cell?_alloc_at _ _ _ _ rfl⟩
theorem Cel.drew {w : World} {b : Nat} {v : Value} (h : Cel w b v) : Cel w.drew b v := h
theorem Cel.grown {w w' : World} {b : Nat} {v : Value} {row : Option Nat} (h : Cel w b v) (g : w.grownBy w' row) (hr : some b ≠ row) : Cel w' b v :=
  ⟨Nat.lt_of_lt_of_le h.1 g.size, (World.cell?_of_block (a := ⟨b, 0, none⟩) (g.block b h.1 hr)).trans h.2⟩
theorem Sl1.drew {w : World} {e : TypeId} {v : Value} {xs : List Value} (h : Sl1 w e v xs) : Sl1 w.drew e v xs := h
theorem Sl1.alloc {w : World} {e : TypeId} {v : Value} {xs : List Value} (h : Sl1 w e v xs) (o : Obj) : Sl1 (w.alloc o) e v xs := h.same fun g hg => Below.heap_alloc _ _ _ (h.lt g hg)
theorem Sl1.grown {w w' : World} {e : TypeId} {v : Value} {xs : List Value} {row : Option Nat} (h : Sl1 w e v xs) (g : w.grownBy w' row) (hr : ∀ b, v.ownBlock = some b → some b ≠ row) : Sl1 w' e v xs := h.same fun b hb => g.block b (h.lt b hb) (hr b hb)
theorem FlP.drew {w : World} {b n i j st : Nat} {f : Nat → Nat → Value} (h : FlP w b n f i j st) : FlP w.drew b n f i j st := h
theorem FlP.lt {w : World} {b n i j st : Nat} {f : Nat → Nat → Value} (h : FlP w b n f i j st) : b < w.heap.size := h.at.lt
theorem FlP.grown {w w' : World} {b n i j st : Nat} {f : Nat → Nat → Value} {row : Option Nat} (h : FlP w b n f i j st) (g : w.grownBy w' row) (hr : some b ≠ row) : FlP w' b n f i j st := h.same (g.block b h.lt hr)
theorem upon_store {o : Oper} {a : Act} {K : Act → World → Prop} {Q : Exit → Act → World → Prop} {W : World} {M n i j st : Nat} {v : Value} {F : Nat → Nat → Value} (h : FlP W M n F i j st) (hi : i < n) (hj : j < n)
    (hK : ∀ w', FlAt w' M n (upd F i j v) → W.grownBy w' (some M) → Oper.upon Try.prog o a K Q (.ok .skip w')) :
    Oper.upon Try.prog o a K Q (((Instr.entryStore 62 (.map (some M)) (.int .i64 st) v).run Try.prog W).andThen fun _ w' => .ok .skip w') := by
  obtain ⟨w', h1, h2, h3⟩ := fl_store (t := 62) (P := Try.prog) h hi hj v
  have h1' : (Instr.entryStore 62 (.map (some M)) (.int .i64 st) v).run Try.prog W = .ok () w' := h1
  rw [h1']
  exact hK w' h2 h3
theorem FlAt.drew {w : World} {b n : Nat} {f : Nat → Nat → Value} (h : FlAt w b n f) : FlAt w.drew b n f := h
theorem FlAt.alloc {w : World} {b n : Nat} {f : Nat → Nat → Value} (h : FlAt w b n f) (o : Obj) : FlAt (w.alloc o) b n f := h.same (Below.heap_alloc _ _ _ h.lt)
theorem keepF {X : Nat → Prop} {W w' : World} {p0 p1 p2 : Addr} {v0 v1 v2 : Value} (h0 : W.cell? p0 = some v0) (h1 : W.cell? p1 = some v1) (h2 : W.cell? p2 = some v2) (x0 : ¬ X p0.block) (x1 : ¬ X p1.block) (x2 : ¬ X p2.block) (h : Off X W w') :
    w'.cell? p0 = some v0 ∧ w'.cell? p1 = some v1 ∧ w'.cell? p2 = some v2 ∧ Off X W w' :=
  ⟨(h.cell (World.block_lt_of_cell? _ _ h0) x0).trans h0, (h.cell (World.block_lt_of_cell? _ _ h1) x1).trans h1, (h.cell (World.block_lt_of_cell? _ _ h2) x2).trans h2, h⟩
/-- What send leaves. -/
def SendR (w : World) (T M n : Nat) (F : Nat → Nat → Value) (i j : Nat) (xs : List Value) (sent : Int) (e : Ending) (w' : World) : Prop :=
  e = .returned (.tuple #[]) ∧ ∃ (v' : Value) (x : World), FlAt w' M n (upd F i j v') ∧ Sl1 w' 70 v' xs ∧ (∃ g, v'.ownBlock = some g ∧ ((F i j).ownBlock = some g ∨ w.heap.size ≤ g)) ∧
    Off (fun k => k = M ∨ (F i j).ownBlock = some k) w x ∧ w' = x.setCell ⟨T, 5, none⟩ (.int .i64 (sent + 1))
set_option maxHeartbeats 4000000 in
theorem send_low {w : World} {T M n : Nat} {F : Nat → Nat → Value} {ms : Nat → Nat → List Value} {sent : Int} (i j : Nat) (mt : TypeId) (mv : Value) (hn : n ≤ 6) (hi : i < n) (hj : j < n)
    (c4 : w.cell? ⟨T, 4, none⟩ = some (.map (some M))) (c5 : w.cell? ⟨T, 5, none⟩ = some (.int .i64 sent)) (f5 : w.frozen? ⟨T, 5, none⟩ = false) (hM : FlAt w M n F) (hF : Sl1 w 70 (F i j) (ms i j)) (hl : (ms i j).length ≤ 100000)
    (hTM : T ≠ M) (hTF : ∀ g, (F i j).ownBlock = some g → g ≠ T ∧ g ≠ M) (hs : -4611686018427387904 ≤ sent ∧ sent ≤ 4611686018427387904) :
    Calls Try.prog 51 #[.pointer (some ⟨T, 0, none⟩), .int .i64 i, .int .i64 j, .iface mt mv] w (SendR w T M n F i j (ms i j ++ [.iface mt mv]) sent) := by
  have hKO : KeysOk Try.prog 68 n := fun a b ha hb => keysOk6 a b (by omega) (by omega)
  have HKO := Lib.hid hKO
  have HTM := Lib.hid hTM
  have HM := Lib.hid hM
  have HF := Lib.hid hF
  obtain ⟨W0, hW0⟩ : ∃ q, q = w.alloc (.cells #[.int .i64 i, .int .i64 j] 68) := ⟨_, rfl⟩
  clear hM hF hKO
  go_enter Try.func51, Try.ntmps51
  go_wp2_with fail
  have y0 : W0.cell? ⟨w.heap.size, 0, none⟩ = some (.int .i64 i) := by rw [hW0, World.cell?_alloc_at _ _ _ _ rfl]; rfl
  have y1 : W0.cell? ⟨w.heap.size, 1, none⟩ = some (.int .i64 j) := by rw [hW0, World.cell?_alloc_at _ _ _ _ rfl]; rfl
  have hTw : T < w.heap.size := World.block_lt_of_cell? _ _ c4
  have hMw : M < w.heap.size := HM.out.lt
  have hBl : Below w.heap.size w W0 := by rw [hW0]; exact (Below.refl _ _).alloc (Nat.le_refl _) _
  have hsz : W0.heap.size = w.heap.size + 1 := by rw [hW0]; simp
  have d4 := (hBl.cell (p := ⟨T, 4, none⟩) hTw).trans c4
  have HM0 := Lib.hid (HM.out.same (hBl.block M hMw))
  have HF0 := Lib.hid (HF.out.same fun g hg => hBl.block g (HF.out.lt g hg))
  rw [← hW0]
  obtain ⟨N, hN⟩ : ∃ N, N = w.heap.size := ⟨_, rfl⟩
  rw [← hN] at y0 y1 hsz hTw hMw ⊢
  have hFN : ∀ g, (F i j).ownBlock = some g → g < N := fun g hg => by rw [hN]; exact HF.out.lt g hg
  obtain ⟨X, hX⟩ : ∃ X : Nat → Prop, X = fun k => k = M ∨ (F i j).ownBlock = some k := ⟨_, rfl⟩
  have x0 : ¬ X T := by rw [hX]; rintro (h | h); exact hTM h; exact (hTF T h).1 rfl
  have x1 : ¬ X N := by rw [hX]; rintro (h | h); omega; have := hFN N h; omega
  have xM : X M := by rw [hX]; exact .inl rfl
  have xF : ∀ g, (F i j).ownBlock = some g → X g := fun g hg => by rw [hX]; exact .inr hg
  have HXM := Lib.hid xM
  have HXF := Lib.hid xF
  have HO0 : Hid (Off X w W0) := by rw [hW0]; exact (Off.refl _ _).alloc _
  have HX := Lib.hid hX
  have HTw : Hid (T < w.heap.size) := World.block_lt_of_cell? _ _ c4
  have HC5 := Lib.hid c5
  have HF5 := Lib.hid f5
  have HFM : Hid (∀ b, (F i j).ownBlock = some b → some b ≠ some M) := fun b hb e => (hTF b hb).2 (Option.some.inj e)
  have HMF : Hid (some M ≠ (F i j).ownBlock) := fun e => (hTF M e.symm).2 rfl
  clear hX hN hTF hFN xM xF hBl hW0 c4 c5 f5
  go_region_held3 (fun w' => w'.cell? ⟨T, 4, none⟩ = some (.map (some M)) ∧ w'.cell? ⟨N, 0, none⟩ = some (.int .i64 i) ∧ w'.cell? ⟨N, 1, none⟩ = some (.int .i64 j) ∧ Off X W0 w')
    ((refine keepF d4 y0 y1 x0 x1 x1 ?_; repeat (first | with_reducible exact Off.refl _ _ | with_reducible refine Off.drew ?_ | with_reducible refine Off.alloc ?_ _ | with_reducible refine Off.grown ?_ hg5 (fun k hk => by cases hk; exact .inl HXM.out) | with_reducible refine Off.grown ?_ hg6 (fun k hk => .inl (HXF.out k hk)) | with_reducible refine Off.grown ?_ hg7 (fun k hk => by cases hk; exact .inl HXM.out))))
    ((first
      | (refine upon_entry (F := F) (n := n) HKO.out (by repeat (first | with_reducible exact HM0.out | with_reducible refine FlAt.drew ?_ | with_reducible refine FlAt.alloc ?_ _)) hi hj ?_
         intro st w5 hp5 hg5)
      | (refine step_app (by rfl) (.tmp 17) (.tmp 19) 67 67 (by rfl) (by rfl) _ _ (by rfl) (by rfl) (msg_push (v := F i j) (xs := ms i j) (x := .iface mt mv) (by repeat (first | with_reducible exact HF0.out | with_reducible refine Sl1.drew ?_ | with_reducible refine Sl1.alloc ?_ _ | with_reducible refine Sl1.grown ?_ hg5 HFM.out)) hl (show Cel _ _ _ from (by repeat (first | with_reducible refine cel_new _ _ _ _ (by first | exact hsz | (simp; omega) | omega) | with_reducible refine Cel.drew ?_ | with_reducible refine Cel.grown ?_ hg5 (fun e => by have := Option.some.inj e; omega)))).2 rfl) ?_
         rintro v6 w6 ⟨hs6, hg6, hb6⟩)
      | (refine upon_store (F := F) (n := n) (i := i) (j := j) (by repeat (first | with_reducible exact hp5 | with_reducible refine FlP.drew ?_ | with_reducible refine FlP.grown ?_ hg6 HMF.out)) hi hj ?_
         intro w7 hm7 hg7))
    )
  have hO7 : Off X W0 w7 := by repeat (first | with_reducible exact Off.refl _ _ | with_reducible refine Off.drew ?_ | with_reducible refine Off.alloc ?_ _ | with_reducible refine Off.grown ?_ hg5 (fun k hk => by cases hk; exact .inl HXM.out) | with_reducible refine Off.grown ?_ hg6 (fun k hk => .inl (HXF.out k hk)) | with_reducible refine Off.grown ?_ hg7 (fun k hk => by cases hk; exact .inl HXM.out))
  have hOw := HO0.out.trans hO7
  have c5 : w7.cell? ⟨T, 5, none⟩ = some (.int .i64 sent) := (hOw.cell (p := ⟨T, 5, none⟩) HTw.out x0).trans HC5.out
  have f5 : w7.frozen? ⟨T, 5, none⟩ = false := (World.frozen?_of_block (a := ⟨T, 5, none⟩) (hOw.block T HTw.out x0)).trans HF5.out
  have hs7 : Sl1 w7 70 v6 (ms i j ++ [.iface mt mv]) := hs6.grown hg7 (fun b hb e => by
    have e := Option.some.inj e
    subst e
    obtain ⟨g, hg, h⟩ := hb6
    rw [hg] at hb
    have hb := Option.some.inj hb
    subst hb
    rcases h with h | h
    · exact HFM.out _ h rfl
    · have := hp5.lt
      omega)
  have hsz7 : w.heap.size ≤ w5.heap.size := by
    have h1 := HO0.out.size
    have h2 := hg5.size
    simp at h2
    omega
  have HR := Lib.hid (And.intro hm7 (And.intro hs7 hOw))
  have HB6 : Hid (∃ g, v6.ownBlock = some g ∧ ((F i j).ownBlock = some g ∨ w.heap.size ≤ g)) := by
    obtain ⟨g, hg, h⟩ := hb6
    exact ⟨g, hg, h.imp id fun h => by omega⟩
  have ws : IntKind.i64.wrap (sent + 1) = sent + 1 := IntWalk.i64_in _ (by omega)
  clear hO7 hOw hs7 hs6 hg5 hg6 hg7 hm7 hp5 hb6 hsz7 d4 y0 y1
  go_wp2_with fail
  go_end0
  obtain ⟨r1, r2, r3⟩ := HR.out
  refine ⟨rfl, v6, w7, ?_, ?_, HB6.out, ?_, rfl⟩
  · exact r1.same (heap_setCell_other w7 ⟨T, 5, none⟩ M _ (Ne.symm HTM.out))
  · refine r2.same fun g hg => heap_setCell_other w7 ⟨T, 5, none⟩ g _ ?_
    rintro rfl
    obtain ⟨g', hg', h⟩ := HB6.out
    rw [hg] at hg'
    have hg' := Option.some.inj hg'
    subst hg'
    rcases h with h | h
    · exact x0 (by rw [HX.out]; exact .inr h)
    · have := HTw.out
      omega
  · rw [HX.out] at r3
    exact r3
end Go.Proofs.Ytahjgdikjaakbaa
