/- What is proved: ranging over colorings, and first (contracts of functions of paint, and what they need). No condition beyond those in each statement. -/
import Derived.Test.YthnhmfmlhlpggaaPtG
namespace Go.Proofs.Ythnhmfmlhlpggaa.Pt
open Go.RowKit Go.Shelf
set_option maxRecDepth 100000
attribute [local go_sem] Oper.semAt_some

set_option maxHeartbeats 400000 in
theorem colorings_calls (many below : Int) (fn : Fn) (fi ca : Array Value) (w : World) :
    Calls Try.prog 106 #[.int .i64 many, .int .i64 below, .func fn fi ca] w fun e w' =>
      e = .returned (.func (.func 115) #[] #[.pointer (some ⟨w.heap.size, 0, none⟩), .pointer (some ⟨w.heap.size + 1, 0, none⟩), .pointer (some ⟨w.heap.size + 1 + 1, 0, none⟩)]) ∧
      ((w.alloc (.cells #[.int .i64 many] 3)).alloc (.cells #[.int .i64 below] 3)).alloc (.cells #[.func fn fi ca] 141) = w' := by
  go_enter Try.func106, Try.ntmps106
  go_wp2
  go_ret
  exact ⟨rfl, rfl⟩

/-- What the rule must answer. -/
def GoodAt (w0 : World) (gid : Nat) (gcaps : Array Value) (good : List Int → Bool) (many below : Nat) : Prop :=
  ∀ (xs : List Int) (A : Option Addr) (n c : Nat) (W : World), n = xs.length → n ≤ many → Below w0.heap.size w0 W → Rd W A xs → n ≤ c → c ≤ 9223372036854775807 → (∃ x ∈ xs, True) → (∀ x ∈ xs, 0 ≤ x ∧ x < below) →
      Calls Try.prog gid (#[.slice A n c] ++ gcaps) W fun e W' => e = .returned (.bool (good xs)) ∧ Below W.heap.size W W'

/-- The same, of the worlds that differ from a given one in some blocks alone. -/
def GoodOff (M0 : Nat → Prop) (w0 : World) (gid : Nat) (gcaps : Array Value) (good : List Int → Bool) (many below : Nat) : Prop :=
  ∀ (xs : List Int) (A : Option Addr) (n c : Nat) (W : World), n = xs.length → n ≤ many → Off M0 w0 W → Rd W A xs → n ≤ c → c ≤ 9223372036854775807 → (∃ x ∈ xs, True) → (∀ x ∈ xs, 0 ≤ x ∧ x < below) →
      Calls Try.prog gid (#[.slice A n c] ++ gcaps) W fun e W' => e = .returned (.bool (good xs)) ∧ Below W.heap.size W W'
theorem Off.none {w0 W : World} (h : Off (fun _ => False) w0 W) : Below w0.heap.size w0 W := h.below (Nat.le_refl _) (fun _ h => h.elim)
theorem GoodAt.off {w0 : World} {gid : Nat} {gcaps : Array Value} {good : List Int → Bool} {many below : Nat} (h : GoodAt w0 gid gcaps good many below) : GoodOff (fun _ => False) w0 gid gcaps good many below :=
  fun xs A n c W h1 h2 h3 => h xs A n c W h1 h2 h3.none

def FirstR (r : Option (List Int)) : Option (List Int) × Int := (r, foundR r)

/-- A coloring (nil: the empty one), or nothing, with an error. -/
def FirstPost (w0 : World) (r : Option (List Int)) (e : Ending) (w' : World) : Prop :=
  match r with
  | none => e = .returned (.tuple #[.slice none 0 0, .int .i64 5]) ∧ Below w0.heap.size w0 w'
  | some xs => ∃ A n c, e = .returned (.tuple #[.slice A n c, .int .i64 0]) ∧ n = xs.length ∧ n ≤ c ∧ c ≤ 9223372036854775807 ∧ Rd w' A xs ∧ Below w0.heap.size w0 w'

theorem alloc3_cells (w : World) (v1 v2 v3 : Value) (t1 t2 t3 : Nat) {W : World} (hb : Below (w.heap.size + 3) (((w.alloc (.cells #[v1] t1)).alloc (.cells #[v2] t2)).alloc (.cells #[v3] t3)) W) :
    W.cell? ⟨w.heap.size, 0, none⟩ = some v1 ∧ W.cell? ⟨w.heap.size + 1, 0, none⟩ = some v2 ∧ W.cell? ⟨w.heap.size + 1 + 1, 0, none⟩ = some v3 := by
  obtain ⟨e1, e2, e3, _⟩ := box3 w v1 v2 v3 t1 t2 t3
  exact ⟨(hb.cell (p := ⟨w.heap.size, 0, none⟩) (by simp)).trans e1, (hb.cell (p := ⟨w.heap.size + 1, 0, none⟩) (by simp)).trans e2, (hb.cell (p := ⟨w.heap.size + 1 + 1, 0, none⟩) (by simp)).trans e3⟩

set_option maxHeartbeats 1000000 in
theorem colorings1_in (gid : Nat) (gcaps : Array Value) (hen : ∀ args w, (callFunc gid args).run Try.prog w = .ok (.enter gid args) w) (good : List Int → Bool) (M0 : Nat → Prop) (w0 : World) (many below : Nat) (hmany : many ≤ 100) (hbelow : below ≤ 100)
    (hgood : GoodOff M0 w0 gid gcaps good many below)
    (l : Nat) (M : Nat → Prop) (N1 : Nat) (hM : ∀ k, M k → (M0 k ∨ w0.heap.size ≤ k) ∧ k < N1) (hN1 : w0.heap.size ≤ N1)
    (J Jx : List (List Int) → World → Prop) (hJ : ∀ s W W', J s W → Below W.heap.size W W' → J s W')
    (hY : ∀ done xs A n c W, J done W → (done ++ [xs]) <+: leaves below good many [] → n = xs.length → RdM M W A xs → n ≤ c → c ≤ 9223372036854775807 → Off M0 w0 W → N1 ≤ W.heap.size →
      YieldAt Fence.wide 0 Try.prog l #[.slice A n c] W fun e W' => (e = .returned (.bool true) ∧ J (done ++ [xs]) W' ∧ Off M W W') ∨ (e = .returned (.bool false) ∧ Jx (done ++ [xs]) W'))
    (b1 b2 b3 : Nat) (W : World) (hc1 : W.cell? ⟨b1, 0, none⟩ = some (.int .i64 many)) (hc2 : W.cell? ⟨b2, 0, none⟩ = some (.int .i64 below)) (hc3 : W.cell? ⟨b3, 0, none⟩ = some (.func (.func gid) #[] gcaps))
    (hJ0 : J [] W) (hB : Off M0 w0 W) (hN : N1 ≤ W.heap.size) :
    CallsIn Fence.wide 0 Try.prog 115 #[.func (.yield l) #[] #[], .pointer (some ⟨b1, 0, none⟩), .pointer (some ⟨b2, 0, none⟩), .pointer (some ⟨b3, 0, none⟩)] W fun e W' => (∃ v, e = .returned v) ∧
      ((J (leaves below good many []) W' ∧ Off M W W') ∨ ∃ q, q <+: leaves below good many [] ∧ Jx q W') := by
  have HE := Lib.hid (extend_in gid gcaps hen good M0 w0 many below hmany hbelow hgood l M N1 hM hN1 J Jx hJ (leaves below good many []) hY many [] none 0 0 [] W rfl (by omega) hJ0 (by simp) ⟨fun h => absurd rfl h, fun h => absurd rfl h⟩ (fun _ => rfl) (Nat.le_refl _) (by omega) (by simp) hB hN)
  clear hY hJ hgood hJ0 hM hB
  refine callsIn_of_wp Try.func115 rfl trivial ?_ rfl
  simp only [Try.ntmps115, List.size_toArray, List.length_cons, List.length_nil, Nat.reduceAdd, Nat.reduceSub, Array.replicate_succ, Array.replicate_zero, List.push_toArray, List.append_toArray, List.nil_append, List.cons_append]
  gi_wp2_with fail
  refine ⟨trivial, rfl, ?_⟩
  refine HE.out.mono ?_
  rintro e w1 (⟨rfl, h1, h2⟩ | ⟨rfl, q, hq, hX⟩)
  · have H1 := Lib.hid h1
    have H2 := Lib.hid h2
    clear h1 h2
    gi_wp2_with fail
    go_end0
    exact ⟨⟨_, rfl⟩, .inl ⟨H1.out, H2.out⟩⟩
  · have H1 := Lib.hid hX
    have H2 := Lib.hid hq
    clear hX hq
    gi_wp2_with fail
    go_end0
    exact ⟨⟨_, rfl⟩, .inr ⟨q, H2.out, H1.out⟩⟩
theorem enters63 : ∀ args w, (callFunc 115 args).run Try.prog w = .ok (.enter 115 args) w := fun _ _ => rfl

theorem Off.putObj {M : Nat → Prop} {w : World} {l : Nat} (o : Obj) (hl : M l) : Off M w (w.putObj l o) :=
  ⟨rfl, rfl, rfl, by simp, fun k _ hk => World.putObj_heap_other (fun e => hk (e ▸ hl))⟩
theorem Off.setCell {M : Nat → Prop} {w : World} {a : Addr} (v : Value) (hl : M a.block) : Off M w (w.setCell a v) :=
  ⟨rfl, rfl, rfl, by simp [World.setCell], fun k _ hk => Below.heap_setCell w a v k (fun e => hk (e ▸ hl))⟩

/-- All blocks of cells lie as they lay. -/
structure KC (w w' : World) : Prop where
  size : w.heap.size ≤ w'.heap.size
  block : ∀ (k : Nat) (c : Array Value) (e : TypeId) (f : Nat × Nat), w.heap[k]? = some (Obj.cells c e f) → w'.heap[k]? = some (Obj.cells c e f)
theorem KC.refl (w : World) : KC w w := ⟨Nat.le_refl _, fun _ _ _ _ h => h⟩
theorem KC.of_below {w w' : World} (h : Below w.heap.size w w') : KC w w' := ⟨h.size, fun k _c _e _f hk => (h.block k (Array.getElem?_eq_some_iff.1 hk).1).trans hk⟩
theorem KC.putObj {w : World} {l : Nat} {o : Obj} (o' : Obj) (hl : w.heap[l]? = some o) (ho : o.isCells = false) : KC w (w.putObj l o') :=
  ⟨by simp, fun k c e f hk => by
    by_cases h : k = l
    · subst h; rw [hk] at hl; cases hl; cases ho
    · rw [World.putObj_heap_other h]; exact hk⟩
theorem KC.cell {w w' : World} (h : KC w w') {a : Addr} {v : Value} (hc : w.cell? a = some v) : w'.cell? a = some v := by
  obtain ⟨o, ho, hk⟩ := cells_of_cell hc
  cases o <;> simp [Obj.isCells] at hk
  exact (World.cell?_of_block ((h.block _ _ _ _ ho).trans ho.symm)).trans hc
theorem KC.frozen {w w' : World} (h : KC w w') {a : Addr} {v : Value} (hc : w.cell? a = some v) : w'.frozen? a = w.frozen? a := by
  obtain ⟨o, ho, hk⟩ := cells_of_cell hc
  cases o <;> simp [Obj.isCells] at hk
  exact World.frozen?_of_block ((h.block _ _ _ _ ho).trans ho.symm)
theorem Rd.kc {w w' : World} {A : Option Addr} {xs : List Int} (h : Rd w A xs) (hk : KC w w') : Rd w' A xs := fun hne => by
  obtain ⟨b, o, e, hb, hc⟩ := h hne
  exact ⟨b, o, e, Nat.lt_of_lt_of_le hb hk.size, fun i hi => hk.cell (hc i hi)⟩

/-- A range over the colourings. -/
theorem range63 (gid : Nat) (gcaps : Array Value) (hen : ∀ args w, (callFunc gid args).run Try.prog w = .ok (.enter gid args) w) (good : List Int → Bool) (M0 : Nat → Prop) (w0 : World) (many below : Nat) (hmany : many ≤ 100) (hbelow : below ≤ 100)
    (hgood : GoodOff M0 w0 gid gcaps good many below)
    {g : Operand} {ps : Array Tmp} {assign body : Code} {Q : Exit → Act → World → Prop} {a : Act} {W0 : World} {b1 b2 b3 : Nat}
    (hg : a.eval g = .func (.func 115) #[] #[.pointer (some ⟨b1, 0, none⟩), .pointer (some ⟨b2, 0, none⟩), .pointer (some ⟨b3, 0, none⟩)]) (hps : ps.size = 1)
    (hc1 : W0.cell? ⟨b1, 0, none⟩ = some (.int .i64 many)) (hc2 : W0.cell? ⟨b2, 0, none⟩ = some (.int .i64 below)) (hc3 : W0.cell? ⟨b3, 0, none⟩ = some (.func (.func gid) #[] gcaps))
    (hB0 : Off M0 w0 W0) (Mb : Nat → Prop) (hMb : ∀ k, Mb k → (M0 k ∨ w0.heap.size ≤ k) ∧ k < W0.heap.size)
    (I Ix : List (List Int) → World → Prop) (hI : ∀ s W W', I s W → KC W W' → I s W') (hIx : ∀ s W W', Ix s W → KC W W' → Ix s W') (h0 : I [] W0)
    (hbody : ∀ l done xs A n c W, I done W → (done ++ [xs]) <+: leaves below good many [] → n = xs.length → RdM Mb W A xs → n ≤ c → c ≤ 9223372036854775807 →
      assign.wpIn (Fence.wide.inRound l) 0 Try.prog (Exit.then (fun a1 w1 => w1 = W ∧ ∀ W', KC W W' → body.wpIn (Fence.wide.inRound l) 0 Try.prog
        (fun e _ w2 => match e with | .normal => I (done ++ [xs]) w2 ∧ Off Mb W' w2 | .ret => Ix (done ++ [xs]) w2 ∧ Off Mb W' w2 | _ => False) a1 W') (fun _ _ _ => False))
        { tmps := (ps.zip #[.slice A n c]).foldl (fun t (p, v) => t.setIfInBounds p v) a.tmps, defers := [] } W)
    (hdone : ∀ D W, W0.heap.size ≤ D → I (leaves below good many []) W → Off M0 w0 W → W.heap[D]? = some (.deferred (some [])) → Q .normal { a with defers := { target := .collected D, args := #[] } :: a.defers } W)
    (hstop : ∀ D q W, W0.heap.size ≤ D → q <+: leaves below good many [] → Ix q W → Off M0 w0 W → W.heap[D]? = some (.deferred (some [])) → Q .ret { a with defers := { target := .collected D, args := #[] } :: a.defers } W) :
    (Code.rangeFunc g ps assign body).wpIn Fence.wide 0 Try.prog Q a W0 := by
  refine wpIn_rangeFunc ?_
  intro fn hfn
  obtain ⟨rec, hrec⟩ : ∃ rec : LoopState → Option Code → Loop, rec = fun st pe => { state := st, pending := pe, fn, tmps := a.tmps, params := ps, assign, body, defers := W0.heap.size } := ⟨_, rfl⟩
  obtain ⟨W1, hW1⟩ : ∃ W1, (W0.alloc (.deferred (some []))).alloc (.loop (rec .ready none)) = W1 := ⟨_, rfl⟩
  have hL1 : W1.heap[W0.heap.size + 1]? = some (.loop (rec .ready none)) := by
    rw [← hW1]; have := World.alloc_heap_new (W0.alloc (.deferred (some []))) (.loop (rec .ready none)); rwa [World.size_alloc] at this
  have hK1 : W1.heap[W0.heap.size]? = some (.deferred (some [])) := by
    rw [← hW1]; exact (Below.heap_alloc _ _ _ (by simp)).trans (World.alloc_heap_new W0 _)
  have hb01 : Below W0.heap.size W0 W1 := by
    rw [← hW1]; exact ((Below.refl _ W0).alloc (Nat.le_refl _) _).alloc (by simp) _
  have hsz1 : W1.heap.size = W0.heap.size + 2 := by rw [← hW1]; simp
  have hkc1 := KC.of_below hb01
  refine ⟨W0.heap.size + 1, [{ target := .collected W0.heap.size, args := #[] }], W1, { target := .fn (.func 115) #[.pointer (some ⟨b1, 0, none⟩), .pointer (some ⟨b2, 0, none⟩), .pointer (some ⟨b3, 0, none⟩)], args := #[.func (.yield (W0.heap.size + 1)) #[] #[]] }, W1, 115,
    #[.func (.yield (W0.heap.size + 1)) #[] #[]] ++ #[.pointer (some ⟨b1, 0, none⟩), .pointer (some ⟨b2, 0, none⟩), .pointer (some ⟨b3, 0, none⟩)], W1, ?_, ?_, ?_, ?_, fun h => (by cases h), ?_⟩
  · rw [← hW1, hrec]; exact run_enterLoop_outer _ _ _ _ _
  · simp only [resolve, hg]
    simp [go_sem]
  · intro f' hf'; trivial
  · simp [invoke, go_sem]
  have hB01 : Off M0 w0 W1 := hB0.then (Off.of_below (M := fun _ => False) hb01) (fun _ h => h.elim)
  refine (colorings1_in gid gcaps hen good M0 w0 many below hmany hbelow hgood (W0.heap.size + 1) (fun k => Mb k ∨ k = W0.heap.size + 1) (W0.heap.size + 2)
    (fun k hk => by
      rcases hk with hk | hk
      · have := hMb k hk; exact ⟨this.1, by omega⟩
      · have := hB0.size; exact ⟨.inr (by omega), by omega⟩) (by have := hB0.size; omega)
    (fun done W => I done W ∧ W.heap[W0.heap.size + 1]? = some (.loop (rec .ready none)) ∧ W.heap[W0.heap.size]? = some (.deferred (some [])))
    (fun q W => Ix q W ∧ W.heap[W0.heap.size + 1]? = some (.loop (rec .done (some .ret))) ∧ W.heap[W0.heap.size]? = some (.deferred (some [])) ∧ Off M0 w0 W)
    (fun s W W' h hb => ⟨hI _ _ _ h.1 (KC.of_below hb), (hb.block _ (Array.getElem?_eq_some_iff.1 h.2.1).1).trans h.2.1, (hb.block _ (Array.getElem?_eq_some_iff.1 h.2.2).1).trans h.2.2⟩)
    ?_ b1 b2 b3 W1 (hkc1.cell hc1) (hkc1.cell hc2) (hkc1.cell hc3) ⟨hI _ _ _ h0 hkc1, hL1, hK1⟩ hB01 (by omega)).mono ?_
  · -- a round
    rintro done xs A n c W ⟨hi, hl, hk⟩ hpre hn hA hnc hc hB hN
    have hy := run_yield (P := Try.prog) (args := #[.slice A n c]) hl (by rw [hrec]; simpa using hps.symm)
    rw [hrec] at hy
    refine ⟨fn, _, assign, body, hy, roundIn_of_wpIn hfn ?_⟩
    refine wpIn_mono (hbody (W0.heap.size + 1) done xs A n c W hi hpre hn ⟨hA.1, fun h a ha hm => hA.2 h a ha (.inl hm)⟩ hnc hc) ?_
    rintro e a1 w1 he
    cases e with
    | normal =>
      obtain ⟨rfl, hb⟩ := he
      refine ⟨_, run_beginRound hl (by rw [hrec]), ?_⟩
      have hkc2 : KC w1 (w1.putObj (W0.heap.size + 1) (.loop { rec .ready none with state := .busy })) := KC.putObj _ hl rfl
      have hlt : W0.heap.size + 1 < w1.heap.size := (Array.getElem?_eq_some_iff.1 hl).1
      have hl2 : (w1.putObj (W0.heap.size + 1) (.loop { rec .ready none with state := .busy })).heap[W0.heap.size + 1]? = some (.loop { rec .ready none with state := .busy }) := World.putObj_heap_same hlt
      have hk2 : (w1.putObj (W0.heap.size + 1) (.loop { rec .ready none with state := .busy })).heap[W0.heap.size]? = some (.deferred (some [])) := (World.putObj_heap_other (by omega)).trans hk
      refine wpIn_mono (hb _ hkc2) ?_
      rintro e2 a2 w2 he2
      have fin : ∀ (jump : Option Code), Off Mb (w1.putObj (W0.heap.size + 1) (.loop { rec .ready none with state := .busy })) w2 →
          (Instr.endRound (W0.heap.size + 1) jump).run Try.prog w2 = .ok (.bool jump.isNone) (w2.putObj (W0.heap.size + 1) (.loop (rec (if jump.isNone then .ready else .done) jump))) ∧
          KC w2 (w2.putObj (W0.heap.size + 1) (.loop (rec (if jump.isNone then .ready else .done) jump))) ∧
          (w2.putObj (W0.heap.size + 1) (.loop (rec (if jump.isNone then .ready else .done) jump))).heap[W0.heap.size + 1]? = some (.loop (rec (if jump.isNone then .ready else .done) jump)) ∧
          (w2.putObj (W0.heap.size + 1) (.loop (rec (if jump.isNone then .ready else .done) jump))).heap[W0.heap.size]? = some (.deferred (some [])) ∧
          Off (fun k => Mb k ∨ k = W0.heap.size + 1) w1 (w2.putObj (W0.heap.size + 1) (.loop (rec (if jump.isNone then .ready else .done) jump))) := fun jump ho => by
        have hl3 := (ho.block _ (by simpa using hlt) (fun h => by have := (hMb _ h).2; omega)).trans hl2
        have hk3 := (ho.block _ (by simp; omega) (fun h => by have := (hMb _ h).2; omega)).trans hk2
        have hr := run_endRound (P := Try.prog) jump hl3
        have hoff : Off (fun k => Mb k ∨ k = W0.heap.size + 1) w1 (w2.putObj (W0.heap.size + 1) (.loop (rec (if jump.isNone then .ready else .done) jump))) :=
          ((Off.putObj (.loop { rec .ready none with state := .busy }) (.inr rfl)).trans ⟨ho.os, ho.tape, ho.output, ho.size, fun k hk hM => ho.block k hk (fun h => hM (.inl h))⟩).trans (Off.putObj _ (.inr rfl))
        refine ⟨?_, KC.putObj _ hl3 rfl, World.putObj_heap_same (Array.getElem?_eq_some_iff.1 hl3).1, (World.putObj_heap_other (by omega)).trans hk3, hoff⟩
        rw [hrec] at hr ⊢
        exact hr
      cases e2 with
      | normal =>
        obtain ⟨h1, h2⟩ := he2
        obtain ⟨q1, q2, q3, q4, q5⟩ := fin none h2
        exact ⟨_, _, q1, .inl ⟨rfl, ⟨hI _ _ _ h1 q2, q3, q4⟩, q5⟩⟩
      | ret =>
        obtain ⟨h1, h2⟩ := he2
        obtain ⟨q1, q2, q3, q4, q5⟩ := fin (some .ret) h2
        refine ⟨_, _, q1, .inr ⟨rfl, hIx _ _ _ h1 q2, q3, q4, hB.then q5 (fun k hk => ?_)⟩⟩
        rcases hk with hk | hk
        · exact (hMb k hk).1
        · have := hB0.size; exact .inr (by omega)
      | exit id => exact he2.elim
      | goto t => exact he2.elim
      | panic ch => exact he2.elim
      | outgrown => exact he2.elim
    | exit id => exact he.elim
    | goto t => exact he.elim
    | ret => exact he.elim
    | panic ch => exact he.elim
    | outgrown => exact he.elim
  · rintro e W2 ⟨⟨v, rfl⟩, (⟨⟨hi, hl, hk⟩, hO⟩ | ⟨q, hq, hix, hl, hk, hB2⟩)⟩
    · refine ⟨none, _, by have := run_endLoop (P := Try.prog) hl (by rw [hrec]; simp); rw [hrec] at this; exact this, hdone W0.heap.size _ (Nat.le_refl _) (hI _ _ _ hi (KC.putObj _ hl rfl)) ?_ ((World.putObj_heap_other (by omega)).trans hk)⟩
      have hb := hB01.then hO (fun k hk => by
        rcases hk with hk | hk
        · exact (hMb k hk).1
        · have := hB0.size; exact .inr (by omega))
      exact hb.then (Off.putObj (M := fun k => k = W0.heap.size + 1) _ rfl) (fun k hk => by have := hB0.size; exact .inr (by omega))
    · refine ⟨some .ret, _, by have := run_endLoop (P := Try.prog) hl (by rw [hrec]; simp); rw [hrec] at this; exact this, ?_⟩
      refine wpIn_ret (hstop W0.heap.size q _ (Nat.le_refl _) hq (hIx _ _ _ hix (KC.putObj _ hl rfl)) ?_ ((World.putObj_heap_other (by omega)).trans hk))
      exact hB2.then (Off.putObj (M := fun k => k = W0.heap.size + 1) _ rfl) (fun k hk => by have := hB0.size; exact .inr (by omega))

def FirstI (N : Nat) (done : List (List Int)) (W : World) : Prop :=
  done = [] ∧ (W.cell? ⟨N, 0, none⟩ = some (.slice none 0 0) ∧ W.frozen? ⟨N, 0, none⟩ = false) ∧ (W.cell? ⟨N + 1, 0, none⟩ = some (.int .i64 0) ∧ W.frozen? ⟨N + 1, 0, none⟩ = false)
def FirstIx (N : Nat) (q : List (List Int)) (W : World) : Prop :=
  ∃ xs A n c, q = [xs] ∧ n = xs.length ∧ n ≤ c ∧ c ≤ 9223372036854775807 ∧ Rd W A xs ∧ W.cell? ⟨N, 0, none⟩ = some (.slice A n c) ∧ W.cell? ⟨N + 1, 0, none⟩ = some (.int .i64 0)
theorem cell_set_self {w : World} {b : Nat} {v u : Value} (h : w.cell? ⟨b, 0, none⟩ = some v) : (w.setCell ⟨b, 0, none⟩ u).cell? ⟨b, 0, none⟩ = some u :=
  World.cell?_setCell_same' _ _ _ (by rw [h]; rfl)
theorem cell_set_far {w : World} {b k i : Nat} {u : Value} (h : k ≠ b) : (w.setCell ⟨b, 0, none⟩ u).cell? ⟨k, i, none⟩ = w.cell? ⟨k, i, none⟩ :=
  World.cell?_of_block (w := w) (Below.heap_setCell _ _ _ _ h)

set_option maxHeartbeats 2000000 in
theorem first_calls (gid : Nat) (gcaps : Array Value) (hen : ∀ args w, (callFunc gid args).run Try.prog w = .ok (.enter gid args) w) (good : List Int → Bool) (w : World) (many below : Nat) (hmany : many ≤ 100) (hbelow : below ≤ 100)
    (hgood : GoodAt w gid gcaps good many below) :
    Calls Try.prog 71 #[.int .i64 many, .int .i64 below, .func (.func gid) #[] gcaps] w (FirstPost w (leaves below good many []).head?) := by
  refine (callsIn_wide (n := 0)).1 ?_
  have HG := Lib.hid hgood
  clear hgood
  refine callsIn_of_wp_marks Try.func71 rfl trivial ?_ rfl
  simp only [Try.ntmps71, List.size_toArray, List.length_cons, List.length_nil, Nat.reduceAdd, Nat.reduceSub, Array.replicate_succ, Array.replicate_zero, List.push_toArray, List.append_toArray, List.nil_append, List.cons_append]
  gi_wp2_with fail
  refine ⟨trivial, rfl, ?_⟩
  refine (callsIn_wide.2 (colorings_calls _ _ _ _ _ _)).mono ?_
  rintro e w1 ⟨rfl, hw1⟩
  obtain ⟨e1, e2, e3, e4⟩ := box3 ((w.alloc (.cells #[.slice none 0 0] 27)).alloc (.cells #[.int .i64 0] 29)) (.int .i64 many) (.int .i64 below) (.func (.func gid) #[] gcaps) 3 3 141
  rw [hw1] at e1 e2 e3 e4
  have hBb : Below w.heap.size w w1 := by
    rw [← hw1]
    exact (((((Below.refl _ _).alloc (Nat.le_refl _) _).alloc (by simp) _).alloc (by simp; omega) _).alloc (by simp; omega) _).alloc (by simp; omega) _
  have hb2 : Below (w.heap.size + 2) ((w.alloc (.cells #[.slice none 0 0] 27)).alloc (.cells #[.int .i64 0] 29)) w1 := by
    rw [← hw1]
    exact (((Below.refl _ _).alloc (by simp) _).alloc (by simp) _).alloc (by simp) _
  have hx1 : w1.cell? ⟨w.heap.size, 0, none⟩ = some (.slice none 0 0) ∧ w1.frozen? ⟨w.heap.size, 0, none⟩ = false := by
    rw [hb2.cell (p := ⟨w.heap.size, 0, none⟩) (by simp), hb2.frozen (p := ⟨w.heap.size, 0, none⟩) (by simp)]
    rw [World.cell?_alloc_past _ _ _ (by simp), World.frozen?_alloc_past _ _ _ (by simp)]
    exact ⟨cell_new _ _ _ _ rfl, frozen_new _ _ _ _ rfl⟩
  have hx2 : w1.cell? ⟨w.heap.size + 1, 0, none⟩ = some (.int .i64 0) ∧ w1.frozen? ⟨w.heap.size + 1, 0, none⟩ = false := by
    rw [hb2.cell (p := ⟨w.heap.size + 1, 0, none⟩) (by simp), hb2.frozen (p := ⟨w.heap.size + 1, 0, none⟩) (by simp)]
    exact ⟨cell_new _ _ _ _ (by simp), frozen_new _ _ _ _ (by simp)⟩
  simp only [World.size_alloc] at e1 e2 e3 e4 ⊢
  clear hw1 hb2
  gi_wp2_with fail
  refine range63 gid gcaps hen good (fun _ => False) w many below hmany hbelow HG.out.off (b1 := w.heap.size + 1 + 1) (b2 := w.heap.size + 1 + 1 + 1) (b3 := w.heap.size + 1 + 1 + 1 + 1) rfl rfl e1 e2 e3 (Off.of_below hBb) (fun k => k = w.heap.size ∨ k = w.heap.size + 1) (fun k hk => ⟨.inr (by omega), by omega⟩)
    (FirstI w.heap.size) (FirstIx w.heap.size)
    (fun s W W' h hk => ⟨h.1, ⟨hk.cell h.2.1.1, (hk.frozen h.2.1.1).trans h.2.1.2⟩, ⟨hk.cell h.2.2.1, (hk.frozen h.2.2.1).trans h.2.2.2⟩⟩)
    (fun s W W' h hk => by
      obtain ⟨xs, A, n, c, h1, h2, h3, h4, h5, h6, h7⟩ := h
      exact ⟨xs, A, n, c, h1, h2, h3, h4, h5.kc hk, hk.cell h6, hk.cell h7⟩)
    ⟨rfl, hx1, hx2⟩ ?body ?done ?stop
  case body =>
    rintro l done xs A n c W ⟨rfl, ⟨hb1, hf1⟩, ⟨hb2, hf2⟩⟩ _ hn hA hnc hc
    have HN := Lib.hid hn
    have HA := Lib.hid hA
    clear hn hA e1 e2 e3 hx1 hx2
    gi_wp2_with fail
    refine ⟨trivial, ?_⟩
    intro W' hk
    have d1 := hk.cell hb1
    have d2 := hk.cell hb2
    have f1 := (hk.frozen hb1).trans hf1
    have f2 := (hk.frozen hb2).trans hf2
    have HK := Lib.hid hk
    clear hk hb1 hb2 hf1 hf2
    gi_wp2_with fail
    have hne1 : xs ≠ [] → ∀ b o, A = some ⟨b, o, none⟩ → b ≠ w.heap.size ∧ b ≠ w.heap.size + 1 := fun h b o e => by
      have := HA.out.2 h _ e
      simp only [not_or] at this
      exact this
    refine ⟨⟨xs, A, n, c, rfl, HN.out, hnc, hc, ?_, ?_, cell_set_self ((cell_set_far (by omega)).trans d2)⟩, (Off.setCell _ (.inl rfl)).trans (Off.setCell _ (.inr rfl))⟩
    · intro hne
      obtain ⟨b, o, e, hb, hcl⟩ := (HA.out.1.kc HK.out) hne
      obtain ⟨q1, q2⟩ := hne1 hne b o e
      exact ⟨b, o, e, by simpa [World.setCell] using hb, fun i hi => by rw [cell_set_far q2, cell_set_far q1]; exact hcl i hi⟩
    · rw [cell_set_far (by omega)]; exact cell_set_self d1
  case done =>
    rintro D W hDle ⟨hnil, ⟨hb1, hf1⟩, ⟨hb2, hf2⟩⟩ hB hD
    have HB := Lib.hid hB.none
    have HNIL := Lib.hid hnil
    clear hB hnil e1 e2 e3 hx1 hx2
    gi_wp2_with fail
    obtain ⟨W2, hW2⟩ : ∃ W2, W2 = (W.setCell ⟨w.heap.size, 0, none⟩ (.slice none 0 0)).setCell ⟨w.heap.size + 1, 0, none⟩ (.int .i64 5) := ⟨_, rfl⟩
    have hD2 : W2.heap[D]? = some (.deferred (some [])) := by
      rw [hW2]; exact (KeepsOthers.setCell _ _ _).same D _ ((KeepsOthers.setCell _ _ _).same D _ hD rfl) rfl
    have d1 : W2.cell? ⟨w.heap.size, 0, none⟩ = some (.slice none 0 0) := by
      rw [hW2, cell_set_far (by omega)]; exact cell_set_self hb1
    have d2 : W2.cell? ⟨w.heap.size + 1, 0, none⟩ = some (.int .i64 5) := by
      rw [hW2]; exact cell_set_self ((cell_set_far (by omega)).trans hb2)
    have hB2 : Below w.heap.size w W2 := by
      rw [hW2]; exact (HB.out.setCell (p := ⟨w.heap.size, 0, none⟩) (Nat.le_refl _) _).setCell (p := ⟨w.heap.size + 1, 0, none⟩) (by simp) _
    rw [← hW2]
    have hkc := KC.putObj (.deferred none) hD2 rfl
    have c1 := hkc.cell d1
    have c2 := hkc.cell d2
    refine ⟨by simp, .inl ⟨_, _, rfl, run_takeDeferred hD2, ?_⟩⟩
    refine ⟨.tuple #[.slice none 0 0, .int .i64 5], ?_, ?_⟩
    · simp [results, Try.results71, go_sem, c1, c2]
    · have hl : leaves below good many [] = [] := HNIL.out
      rw [hl]
      exact ⟨rfl, hB2.trans ((Off.putObj (M := fun k => k = D) _ rfl).below hB2.size (fun k hk => by have := hBb.size; omega))⟩
  case stop =>
    rintro D q W hDle hq ⟨xs, A, n, c, rfl, hn, hnc, hc, hA, hb1, hb2⟩ hB hD
    have HB := Lib.hid hB.none
    have HQ := Lib.hid hq
    have HA := Lib.hid hA
    have HN := Lib.hid hn
    clear hB hq hA hn e1 e2 e3 hx1 hx2
    gi_wp2_with fail
    have hkc := KC.putObj (.deferred none) hD rfl
    have c1 := hkc.cell hb1
    have c2 := hkc.cell hb2
    refine ⟨by simp, .inl ⟨_, _, rfl, run_takeDeferred hD, ?_⟩⟩
    refine ⟨.tuple #[.slice A n c, .int .i64 0], ?_, ?_⟩
    · simp [results, Try.results71, go_sem, c1, c2]
    · have hl : (leaves below good many []).head? = some xs := by
        obtain ⟨t, ht⟩ := HQ.out
        rw [← ht]; rfl
      rw [hl]
      refine ⟨A, n, c, rfl, HN.out, hnc, hc, HA.out.kc hkc, HB.out.trans ((Off.putObj (M := fun k => k = D) _ rfl).below HB.out.size (fun k hk => by have := hBb.size; omega))⟩

end Go.Proofs.Ythnhmfmlhlpggaa.Pt
