/- What is proved: ranging over the subsets of weigh (contracts of functions of weigh, and what they need). No condition beyond those in each statement. -/
import Derived.Test.YthnhmfmlhlpggaaZC
namespace Go.Proofs.Ythnhmfmlhlpggaa
open Go.RowKit Go.Shelf Pt
set_option maxRecDepth 100000
attribute [local go_sem] Oper.semAt_some

/-- All subsets, in the order of the program. -/
def subsL (ws : List Int) : List Sub := ([], 0) :: sbR ws ws.length [] 0

set_option maxHeartbeats 1000000 in
theorem subs1_in (ws : List Int) (Aw : Option Addr) (m cw : Nat) (hm : m = ws.length) (hm12 : m ≤ 12) (hwl : m ≤ cw) (hwc : cw ≤ 9223372036854775807) (hwb : ∀ x ∈ ws, 0 ≤ x ∧ x ≤ 100000) (M0 : Nat → Prop) (w0 : World) (hws : RdM M0 w0 Aw ws)
    (l : Nat) (M : Nat → Prop) (N1 : Nat) (hM : ∀ k, M k → (M0 k ∨ w0.heap.size ≤ k) ∧ k < N1) (hN1 : w0.heap.size ≤ N1)
    (J Jx : List Sub → World → Prop) (hJ : ∀ s W W', J s W → Below W.heap.size W W' → J s W')
    (hY : ∀ done xs s A n c W, J done W → (done ++ [(xs, s)]) <+: subsL ws → n = xs.length → RdM M W A xs → n ≤ c → c ≤ 9223372036854775807 → Off M0 w0 W → N1 ≤ W.heap.size →
      YieldAt Fence.wide 0 Try.prog l #[.agg #[.slice A n c, .int .i64 s]] W fun e W' => (e = .returned (.bool true) ∧ J (done ++ [(xs, s)]) W' ∧ Off M W W') ∨ (e = .returned (.bool false) ∧ Jx (done ++ [(xs, s)]) W' ∧ Off M W W'))
    (b1 : Nat) (W : World) (hc1 : W.cell? ⟨b1, 0, none⟩ = some (.slice Aw m cw))
    (hJ0 : J [] W) (hB : Off M0 w0 W) (hN : N1 ≤ W.heap.size) :
    CallsIn Fence.wide 0 Try.prog 86 #[.func (.yield l) #[] #[], .pointer (some ⟨b1, 0, none⟩)] W fun e W' => (∃ v, e = .returned v) ∧
      ((J (subsL ws) W' ∧ Off M W W') ∨ ∃ q, q <+: subsL ws ∧ Jx q W') := by
  have HE := Lib.hid (extend87_in ws Aw m cw hm hm12 hwl hwc hwb M0 w0 hws l M N1 hM hN1 J Jx hJ (subsL ws) hY m 0 [] 0 none 0 0 [] W rfl (by omega) (Nat.le_refl _) (.inl ⟨rfl, rfl⟩) ⟨by omega, by omega⟩ hJ0 (by rw [hm]; exact ⟨[], by simp [subsL]⟩) ⟨fun h => absurd rfl h, fun h => absurd rfl h⟩ (fun _ => rfl) (Nat.le_refl _) (by omega) hB hN)
  have HM := Lib.hid hm
  clear hY hJ hJ0 hM hB hm hws hwb
  refine callsIn_of_wp Try.func86 rfl trivial ?_ rfl
  simp only [Try.ntmps86, List.size_toArray, List.length_cons, List.length_nil, Nat.reduceAdd, Nat.reduceSub, Array.replicate_succ, Array.replicate_zero, List.push_toArray, List.append_toArray, List.nil_append, List.cons_append]
  gi_wp2_with fail
  refine ⟨trivial, rfl, ?_⟩
  refine HE.out.mono ?_
  rintro e w1 (⟨rfl, h1, h2⟩ | ⟨rfl, q, hq, hX, _⟩)
  · have H1 := Lib.hid h1
    have H2 := Lib.hid h2
    clear h1 h2
    gi_wp2_with fail
    go_end0
    refine ⟨⟨_, rfl⟩, .inl ⟨?_, H2.out⟩⟩
    have := H1.out
    rw [HM.out] at this
    exact this
  · have H1 := Lib.hid hX
    have H2 := Lib.hid hq
    clear hX hq
    gi_wp2_with fail
    go_end0
    refine ⟨⟨_, rfl⟩, .inr ⟨q, ?_, H1.out⟩⟩
    have := H2.out
    rw [HM.out] at this
    exact this
/-- A range over the colourings. -/
theorem range86 (ws : List Int) (Aw : Option Addr) (m cw : Nat) (hm : m = ws.length) (hm12 : m ≤ 12) (hwl : m ≤ cw) (hwc : cw ≤ 9223372036854775807) (hwb : ∀ x ∈ ws, 0 ≤ x ∧ x ≤ 100000) (M0 : Nat → Prop) (w0 : World) (hws : RdM M0 w0 Aw ws)
    {g : Operand} {ps : Array Tmp} {assign body : Code} {Q : Exit → Act → World → Prop} {a : Act} {W0 : World} {b1 : Nat}
    (hg : a.eval g = .func (.func 86) #[] #[.pointer (some ⟨b1, 0, none⟩)]) (hps : ps.size = 1)
    (hc1 : W0.cell? ⟨b1, 0, none⟩ = some (.slice Aw m cw))
    (hB0 : Off M0 w0 W0) (Mb : Nat → Prop) (hMb : ∀ k, Mb k → (M0 k ∨ w0.heap.size ≤ k) ∧ k < W0.heap.size)
    (I Ix : List Sub → World → Prop) (hI : ∀ s W W', I s W → KC W W' → I s W') (hIx : ∀ s W W', Ix s W → KC W W' → Ix s W') (h0 : I [] W0)
    (hbody : ∀ l done xs s A n c W, I done W → (done ++ [(xs, s)]) <+: subsL ws → n = xs.length → RdM Mb W A xs → n ≤ c → c ≤ 9223372036854775807 → Off M0 w0 W →
      assign.wpIn (Fence.wide.inRound l) 0 Try.prog (Exit.then (fun a1 w1 => Off Mb W w1 ∧ ∀ W', KC w1 W' → body.wpIn (Fence.wide.inRound l) 0 Try.prog
        (fun e _ w2 => match e with | .normal => I (done ++ [(xs, s)]) w2 ∧ Off Mb W' w2 | .ret => Ix (done ++ [(xs, s)]) w2 ∧ Off Mb W' w2 | _ => False) a1 W') (fun _ _ _ => False))
        { tmps := (ps.zip #[.agg #[.slice A n c, .int .i64 s]]).foldl (fun t (p, v) => t.setIfInBounds p v) a.tmps, defers := [] } W)
    (hdone : ∀ D W, W0.heap.size ≤ D → I (subsL ws) W → Off M0 w0 W → W.heap[D]? = some (.deferred (some [])) → Q .normal { a with defers := { target := .collected D, args := #[] } :: a.defers } W)
    (hstop : ∀ D q W, W0.heap.size ≤ D → q <+: subsL ws → Ix q W → Off M0 w0 W → W.heap[D]? = some (.deferred (some [])) → Q .ret { a with defers := { target := .collected D, args := #[] } :: a.defers } W) :
    (Code.rangeFunc g ps assign body).wpIn Fence.wide 0 Try.prog Q a W0 := by
  refine wpIn_rangeFunc ?_
  intro fn hfn
  obtain ⟨rec, hrec⟩ : ∃ rec : LoopState → Option Code → Loop, rec = fun st pe => { state := st, pending := pe, fn, tmps := a.tmps, params := ps, assign, body, defers := W0.heap.size } := ⟨_, rfl⟩
  obtain ⟨W1, hW1⟩ : ∃ W1, (W0.alloc (.deferred (some []))).alloc (.loop (rec .ready none)) = W1 := ⟨_, rfl⟩
  have hL1 : W1.heap[W0.heap.size + 1]? = some (.loop (rec .ready none)) := by
    rw [← hW1]; have := World.alloc_heap_new (W0.alloc (.deferred (some []))) (.loop (rec .ready none)); rwa [World.size_alloc] at this
  have hK1 : W1.heap[W0.heap.size]? = some (.deferred (some [])) := by
    rw [← hW1]; exact (Below.heap_alloc _ _ _ (by simp)).trans (World.alloc_heap_new W0 _)
  have hb01 : Below W0.heap.size W0 W1 := by
    rw [← hW1]; exact ((Below.refl _ W0).alloc (Nat.le_refl _) _).alloc (by simp) _
  have hsz1 : W1.heap.size = W0.heap.size + 2 := by rw [← hW1]; simp
  have hkc1 := KC.of_below hb01
  refine ⟨W0.heap.size + 1, [{ target := .collected W0.heap.size, args := #[] }], W1, { target := .fn (.func 86) #[.pointer (some ⟨b1, 0, none⟩)], args := #[.func (.yield (W0.heap.size + 1)) #[] #[]] }, W1, 86,
    #[.func (.yield (W0.heap.size + 1)) #[] #[]] ++ #[.pointer (some ⟨b1, 0, none⟩)], W1, ?_, ?_, ?_, ?_, fun h => (by cases h), ?_⟩
  · rw [← hW1, hrec]; exact run_enterLoop_outer _ _ _ _ _
  · simp only [resolve, hg]
    simp [go_sem]
  · intro f' hf'; trivial
  · simp [invoke, go_sem]
  have hB01 : Off M0 w0 W1 := hB0.then (Off.of_below (M := fun _ => False) hb01) (fun _ h => h.elim)
  refine (subs1_in ws Aw m cw hm hm12 hwl hwc hwb M0 w0 hws (W0.heap.size + 1) (fun k => Mb k ∨ k = W0.heap.size + 1) (W0.heap.size + 2)
    (fun k hk => by
      rcases hk with hk | hk
      · have := hMb k hk; exact ⟨this.1, by omega⟩
      · have := hB0.size; exact ⟨.inr (by omega), by omega⟩) (by have := hB0.size; omega)
    (fun done W => I done W ∧ W.heap[W0.heap.size + 1]? = some (.loop (rec .ready none)) ∧ W.heap[W0.heap.size]? = some (.deferred (some [])))
    (fun q W => Ix q W ∧ W.heap[W0.heap.size + 1]? = some (.loop (rec .done (some .ret))) ∧ W.heap[W0.heap.size]? = some (.deferred (some [])) ∧ Off M0 w0 W)
    (fun s W W' h hb => ⟨hI _ _ _ h.1 (KC.of_below hb), (hb.block _ (Array.getElem?_eq_some_iff.1 h.2.1).1).trans h.2.1, (hb.block _ (Array.getElem?_eq_some_iff.1 h.2.2).1).trans h.2.2⟩)
    ?_ b1 W1 (hkc1.cell hc1) ⟨hI _ _ _ h0 hkc1, hL1, hK1⟩ hB01 (by omega)).mono ?_
  · -- a round
    rintro done xs s A n c W ⟨hi, hl, hk⟩ hpre hn hA hnc hc hB hN
    have hy := run_yield (P := Try.prog) (args := #[.agg #[.slice A n c, .int .i64 s]]) hl (by rw [hrec]; simpa using hps.symm)
    rw [hrec] at hy
    refine ⟨fn, _, assign, body, hy, roundIn_of_wpIn hfn ?_⟩
    refine wpIn_mono (hbody (W0.heap.size + 1) done xs s A n c W hi hpre hn ⟨hA.1, fun h a ha hm => hA.2 h a ha (.inl hm)⟩ hnc hc hB) ?_
    rintro e a1 w1 he
    cases e with
    | normal =>
      obtain ⟨hoa, hb⟩ := he
      have hmm : ∀ k, k = W0.heap.size ∨ k = W0.heap.size + 1 → ¬ Mb k := fun k hk h => by have := (hMb _ h).2; omega
      have hl := (hoa.block _ (Array.getElem?_eq_some_iff.1 hl).1 (hmm _ (.inr rfl))).trans hl
      have hk := (hoa.block _ (Array.getElem?_eq_some_iff.1 hk).1 (hmm _ (.inl rfl))).trans hk
      refine ⟨_, run_beginRound hl (by rw [hrec]), ?_⟩
      have hkc2 : KC w1 (w1.putObj (W0.heap.size + 1) (.loop { rec .ready none with state := .busy })) := KC.putObj _ hl rfl
      have hlt : W0.heap.size + 1 < w1.heap.size := (Array.getElem?_eq_some_iff.1 hl).1
      have hl2 : (w1.putObj (W0.heap.size + 1) (.loop { rec .ready none with state := .busy })).heap[W0.heap.size + 1]? = some (.loop { rec .ready none with state := .busy }) := World.putObj_heap_same hlt
      have hk2 : (w1.putObj (W0.heap.size + 1) (.loop { rec .ready none with state := .busy })).heap[W0.heap.size]? = some (.deferred (some [])) := (World.putObj_heap_other (by omega)).trans hk
      refine wpIn_mono (hb _ hkc2) ?_
      rintro e2 a2 w2 he2
      have hoa' : Off (fun k => Mb k ∨ k = W0.heap.size + 1) W w1 := ⟨hoa.os, hoa.tape, hoa.output, hoa.size, fun k hk hM => hoa.block k hk (fun h => hM (.inl h))⟩
      have fin : ∀ (jump : Option Code), Off Mb (w1.putObj (W0.heap.size + 1) (.loop { rec .ready none with state := .busy })) w2 →
          (Instr.endRound (W0.heap.size + 1) jump).run Try.prog w2 = .ok (.bool jump.isNone) (w2.putObj (W0.heap.size + 1) (.loop (rec (if jump.isNone then .ready else .done) jump))) ∧
          KC w2 (w2.putObj (W0.heap.size + 1) (.loop (rec (if jump.isNone then .ready else .done) jump))) ∧
          (w2.putObj (W0.heap.size + 1) (.loop (rec (if jump.isNone then .ready else .done) jump))).heap[W0.heap.size + 1]? = some (.loop (rec (if jump.isNone then .ready else .done) jump)) ∧
          (w2.putObj (W0.heap.size + 1) (.loop (rec (if jump.isNone then .ready else .done) jump))).heap[W0.heap.size]? = some (.deferred (some [])) ∧
          Off (fun k => Mb k ∨ k = W0.heap.size + 1) w1 (w2.putObj (W0.heap.size + 1) (.loop (rec (if jump.isNone then .ready else .done) jump))) := fun jump ho => by
        have hl3 := (ho.block _ (by simpa using hlt) (fun h => by have := (hMb _ h).2; omega)).trans hl2
        have hk3 := (ho.block _ (by simp; omega) (fun h => by have := (hMb _ h).2; omega)).trans hk2
        have hr := run_endRound (P := Try.prog) jump hl3
        have hoff : Off (fun k => Mb k ∨ k = W0.heap.size + 1) w1 (w2.putObj (W0.heap.size + 1) (.loop (rec (if jump.isNone then .ready else .done) jump))) :=
          ((Off.putObj (.loop { rec .ready none with state := .busy }) (.inr rfl)).trans ⟨ho.os, ho.tape, ho.output, ho.size, fun k hk hM => ho.block k hk (fun h => hM (.inl h))⟩).trans (Off.putObj _ (.inr rfl))
        refine ⟨?_, KC.putObj _ hl3 rfl, World.putObj_heap_same (Array.getElem?_eq_some_iff.1 hl3).1, (World.putObj_heap_other (by omega)).trans hk3, hoff⟩
        rw [hrec] at hr ⊢
        exact hr
      cases e2 with
      | normal =>
        obtain ⟨h1, h2⟩ := he2
        obtain ⟨q1, q2, q3, q4, q5⟩ := fin none h2
        exact ⟨_, _, q1, .inl ⟨rfl, ⟨hI _ _ _ h1 q2, q3, q4⟩, hoa'.trans q5⟩⟩
      | ret =>
        obtain ⟨h1, h2⟩ := he2
        obtain ⟨q1, q2, q3, q4, q5⟩ := fin (some .ret) h2
        refine ⟨_, _, q1, .inr ⟨rfl, ⟨hIx _ _ _ h1 q2, q3, q4, hB.then (hoa'.trans q5) (fun k hk => ?_)⟩, hoa'.trans q5⟩⟩
        rcases hk with hk | hk
        · exact (hMb k hk).1
        · have := hB0.size; exact .inr (by omega)
      | exit id => exact he2.elim
      | goto t => exact he2.elim
      | panic ch => exact he2.elim
      | outgrown => exact he2.elim
    | exit id => exact he.elim
    | goto t => exact he.elim
    | ret => exact he.elim
    | panic ch => exact he.elim
    | outgrown => exact he.elim
  · rintro e W2 ⟨⟨v, rfl⟩, (⟨⟨hi, hl, hk⟩, hO⟩ | ⟨q, hq, hix, hl, hk, hB2⟩)⟩
    · refine ⟨none, _, by have := run_endLoop (P := Try.prog) hl (by rw [hrec]; simp); rw [hrec] at this; exact this, hdone W0.heap.size _ (Nat.le_refl _) (hI _ _ _ hi (KC.putObj _ hl rfl)) ?_ ((World.putObj_heap_other (by omega)).trans hk)⟩
      have hb := hB01.then hO (fun k hk => by
        rcases hk with hk | hk
        · exact (hMb k hk).1
        · have := hB0.size; exact .inr (by omega))
      exact hb.then (Off.putObj (M := fun k => k = W0.heap.size + 1) _ rfl) (fun k hk => by have := hB0.size; exact .inr (by omega))
    · refine ⟨some .ret, _, by have := run_endLoop (P := Try.prog) hl (by rw [hrec]; simp); rw [hrec] at this; exact this, ?_⟩
      refine wpIn_ret (hstop W0.heap.size q _ (Nat.le_refl _) hq (hIx _ _ _ hix (KC.putObj _ hl rfl)) ?_ ((World.putObj_heap_other (by omega)).trans hk))
      exact hB2.then (Off.putObj (M := fun k => k = W0.heap.size + 1) _ rfl) (fun k hk => by have := hB0.size; exact .inr (by omega))

end Go.Proofs.Ythnhmfmlhlpggaa
