/- What is proved: First Fit. No condition beyond those in each statement. -/
import Derived.Test.YthnhmfmlhlpggaaZW
import Derived.Test.YthnhmfmlhlpggaaPtB
import Derived.Test.YthnhmfmlhlpggaaS
import Derived.Deep.CutBlock
namespace Go.Proofs.Ythnhmfmlhlpggaa
open Go.RowKit
set_option maxRecDepth 100000

/-- Colours by First Fit. -/
def FitOk (es : List (Int × Int)) (out : List Int) : Prop := ∀ i, i < out.length →
  (0 ≤ out.getD i 0 ∧ out.getD i 0 ≤ i) ∧ (∀ j, j < i → ovB (es.getD i (0, 0)) (es.getD j (0, 0)) = true → out.getD j 0 ≠ out.getD i 0) ∧
  ∀ c : Nat, (c : Int) < out.getD i 0 → ∃ j, j < i ∧ out.getD j 0 = c ∧ ovB (es.getD i (0, 0)) (es.getD j (0, 0)) = true
theorem snoc_at {out : List Int} {x : Int} {i : Nat} (h : i < out.length) : (out ++ [x]).getD i 0 = out.getD i 0 := by
  rw [List.getD_eq_getElem?_getD, List.getElem?_append_left h, ← List.getD_eq_getElem?_getD]
theorem snoc_end (out : List Int) (x : Int) : (out ++ [x]).getD out.length 0 = x := by
  rw [List.getD_eq_getElem?_getD, List.getElem?_append_right (Nat.le_refl _)]; simp
theorem fitok_snoc {es : List (Int × Int)} {out : List Int} {x : Nat} (h : FitOk es out) (hx : x ≤ out.length)
    (h1 : ∀ j, j < out.length → ovB (es.getD out.length (0, 0)) (es.getD j (0, 0)) = true → out.getD j 0 ≠ x)
    (h2 : ∀ c : Nat, c < x → ∃ j, j < out.length ∧ out.getD j 0 = c ∧ ovB (es.getD out.length (0, 0)) (es.getD j (0, 0)) = true) : FitOk es (out ++ [(x : Int)]) := by
  intro i hi
  rw [List.length_append] at hi
  have hi' : i < out.length + 1 := hi
  by_cases e : i = out.length
  · subst e
    rw [snoc_end]
    refine ⟨by omega, fun j hj ho => ?_, fun c hc => ?_⟩
    · rw [snoc_at hj]; exact h1 j hj ho
    · obtain ⟨j, hj, e1, e2⟩ := h2 c (by omega)
      exact ⟨j, hj, by rw [snoc_at hj]; exact e1, e2⟩
  · have hil : i < out.length := by omega
    obtain ⟨a, b, c⟩ := h i hil
    rw [snoc_at hil]
    refine ⟨a, fun j hj ho => ?_, fun d hd => ?_⟩
    · rw [snoc_at (by omega)]; exact b j hj ho
    · obtain ⟨j, hj, e1, e2⟩ := c d hd
      exact ⟨j, hj, by rw [snoc_at (by omega)]; exact e1, e2⟩

theorem Ow.same {w w' : World} {base : Nat} {v : Value} {xs : List Int} (h : Ow w base v xs) (e : ∀ g, base ≤ g → w'.heap[g]? = w.heap[g]?) : Ow w' base v xs := by
  refine ⟨h.1, ?_⟩
  rcases h.2 with h | ⟨g', cap, cur, e', hb, hg, h⟩
  · exact .inl h
  · exact .inr ⟨g', cap, cur, e', hb, by rw [e g' hb]; exact hg, h⟩

theorem Ow.weaken {w : World} {base base' : Nat} {v : Value} {xs : List Int} (h : Ow w base v xs) (hb : base' ≤ base) : Ow w base' v xs := by
  refine ⟨h.1, ?_⟩
  rcases h.2 with h | ⟨g', cap, cur, e', hb', hg, h⟩
  · exact .inl h
  · exact .inr ⟨g', cap, cur, e', Nat.le_trans hb hb', hg, h⟩

/-- First Fit's state at the head of its loop. -/
structure FitO (w0 : World) (A : Option Addr) (c : Nat) (es : List (Int × Int)) (out : List Int) (v : Value) (wr : World) : Prop where
  p : wr.cell? ⟨w0.heap.size, 0, none⟩ = some (.slice A es.length c)
  m : wr.cell? ⟨w0.heap.size + 1, 0, none⟩ = some (.func (.func 103) #[] #[])
  o : wr.cell? ⟨w0.heap.size + 1 + 1, 0, none⟩ = some v
  f : wr.frozen? ⟨w0.heap.size + 1 + 1, 0, none⟩ = false
  s : w0.heap.size + 3 ≤ wr.heap.size
  ow : Ow wr (w0.heap.size + 3) v out
  b : Below w0.heap.size w0 wr
theorem fito_new (w0 : World) (A : Option Addr) (c n : Nat) (es : List (Int × Int)) (hn : n = es.length) :
    FitO w0 A c es [] (.slice none 0 0) (((w0.alloc (.cells #[.slice A n c] 53)).alloc (.cells #[.func (.func 103) #[] #[]] 75)).alloc (.cells #[.slice none 0 0] 27)) := by
  subst hn
  refine ⟨by go_simp, by go_simp, by go_simp, by go_simp, by simp, ⟨rfl, .inl ⟨rfl, rfl⟩⟩, ?_⟩
  exact (((Below.refl _ _).alloc (Nat.le_refl _) _).alloc (by simp) _).alloc (by simp; omega) _
theorem FitO.below {w0 W1 wr : World} {A : Option Addr} {c : Nat} {es : List (Int × Int)} {out : List Int} {v : Value} (h : FitO w0 A c es out v W1) (hb : Below W1.heap.size W1 wr) : FitO w0 A c es out v wr :=
  have hs := h.s
  have hs2 := hb.size
  have g (b o : Nat) (hb' : b < W1.heap.size) : wr.cell? ⟨b, o, none⟩ = W1.cell? ⟨b, o, none⟩ := hb.cell (p := ⟨b, o, none⟩) hb'
  ⟨(g _ 0 (by omega)).trans h.p, (g _ 0 (by omega)).trans h.m, (g _ 0 (by omega)).trans h.o, (hb.frozen (p := ⟨w0.heap.size + 1 + 1, 0, none⟩) (by show w0.heap.size + 1 + 1 < _; omega)).trans h.f, by omega, h.ow.below hb, h.b.trans (hb.mono (by omega))⟩
theorem FitO.push {w0 w4 w5 : World} {A : Option Addr} {c : Nat} {es : List (Int × Int)} {out out' : List Int} {v v' : Value} (h : FitO w0 A c es out v w4) (ho : Ow w5 (w0.heap.size + 3) v' out') (hb : Below (w0.heap.size + 3) w4 w5) :
    FitO w0 A c es out' v' (w5.setCell ⟨w0.heap.size + 1 + 1, 0, none⟩ v') :=
  have hs := h.s
  have hs2 := hb.size
  have g (b o : Nat) (hb' : b < w0.heap.size + 3) : w5.cell? ⟨b, o, none⟩ = w4.cell? ⟨b, o, none⟩ := hb.cell (p := ⟨b, o, none⟩) hb'
  ⟨(World.cell?_setCell_other _ _ _ _ (by simp)).trans ((g _ 0 (by omega)).trans h.p), (World.cell?_setCell_other _ _ _ _ (by simp)).trans ((g _ 0 (by omega)).trans h.m), World.cell?_setCell_same _ _ _ ((g _ 0 (by omega)).trans h.o),
   (World.frozen?_setCell _ _ _ _).trans ((hb.frozen (p := ⟨w0.heap.size + 1 + 1, 0, none⟩) (by show w0.heap.size + 1 + 1 < _; omega)).trans h.f), by rw [World.size_setCell]; omega,
   ho.same (fun g' hg => Below.heap_setCell _ _ _ _ (by show g' ≠ w0.heap.size + 1 + 1; omega)), (h.b.trans (hb.mono (by omega))).setCell (by show w0.heap.size ≤ w0.heap.size + 1 + 1; omega) _⟩
/-- The state in the search for a number. -/
structure FIn (W1 : World) (iv s1 s2 : Int) (cv : Nat) (wr : World) : Prop where
  c : wr.cell? ⟨W1.heap.size + 1 + 1, 0, none⟩ = some (.int .i64 cv)
  f : wr.frozen? ⟨W1.heap.size + 1 + 1, 0, none⟩ = false
  i : wr.cell? ⟨W1.heap.size, 0, none⟩ = some (.int .i64 iv)
  s1 : wr.cell? ⟨W1.heap.size + 1, 0, none⟩ = some (.int .i64 s1)
  s2 : wr.cell? ⟨W1.heap.size + 1, 1, none⟩ = some (.int .i64 s2)
  s : W1.heap.size + 3 ≤ wr.heap.size
  b : Below W1.heap.size W1 wr
theorem fin_new (W1 : World) (iv s1 s2 : Int) : FIn W1 iv s1 s2 0 (((W1.alloc (.cells #[.int .i64 iv] 3)).alloc (.cells #[.int .i64 s1, .int .i64 s2] 60)).alloc (.cells #[.int .i64 0] 3)) := by
  refine ⟨by go_simp, by go_simp, by go_simp, by go_simp, by go_simp, by simp, ?_⟩
  exact (((Below.refl _ _).alloc (Nat.le_refl _) _).alloc (by simp) _).alloc (by simp; omega) _
theorem FIn.below {W1 : World} {iv s1 s2 : Int} {cv : Nat} {wr w' : World} (h : FIn W1 iv s1 s2 cv wr) (hb : Below wr.heap.size wr w') : FIn W1 iv s1 s2 cv w' :=
  have g (b o : Nat) (hb' : b < wr.heap.size) : w'.cell? ⟨b, o, none⟩ = wr.cell? ⟨b, o, none⟩ := hb.cell (p := ⟨b, o, none⟩) hb'
  have hs := h.s
  have hs2 := hb.size
  ⟨(g _ 0 (by omega)).trans h.c, (hb.frozen (p := ⟨W1.heap.size + 1 + 1, 0, none⟩) (by show W1.heap.size + 1 + 1 < _; omega)).trans h.f, (g _ 0 (by omega)).trans h.i, (g _ 0 (by omega)).trans h.s1, (g _ 1 (by omega)).trans h.s2, by omega, h.b.trans (hb.mono (by omega))⟩
theorem FIn.set {W1 : World} {iv s1 s2 : Int} {cv : Nat} {wr : World} (h : FIn W1 iv s1 s2 cv wr) (x : Nat) : FIn W1 iv s1 s2 x (wr.setCell ⟨W1.heap.size + 1 + 1, 0, none⟩ (.int .i64 x)) :=
  ⟨World.cell?_setCell_same _ _ _ h.c, (World.frozen?_setCell _ _ _ _).trans h.f, (World.cell?_setCell_other _ _ _ _ (by simp)).trans h.i, (World.cell?_setCell_other _ _ _ _ (by simp)).trans h.s1, (World.cell?_setCell_other _ _ _ _ (by simp)).trans h.s2, by rw [World.size_setCell]; exact h.s, h.b.setCell (by show W1.heap.size ≤ W1.heap.size + 1 + 1; omega) _⟩
theorem FIn.env {w0 W1 wr : World} {A G : Option Addr} {c oc : Nat} {es : List (Int × Int)} {out : List Int} {iv s1 s2 : Int} {cv : Nat} (hO : FitO w0 A c es out (.slice G out.length oc) W1) (h : FIn W1 iv s1 s2 cv wr) (hes : RdE w0 A es) (hout : Rd W1 G out) :
    FitE (w0.heap.size + 1 + 1) (W1.heap.size + 1 + 1) (w0.heap.size + 1) W1.heap.size (W1.heap.size + 1) w0.heap.size G oc out cv iv (s1, s2) A c es wr :=
  have hs := hO.s
  have hs2 := h.s
  have g (b o : Nat) (hb' : b < W1.heap.size) : wr.cell? ⟨b, o, none⟩ = W1.cell? ⟨b, o, none⟩ := h.b.cell (p := ⟨b, o, none⟩) hb'
  ⟨(g _ 0 (by omega)).trans hO.o, h.c, (g _ 0 (by omega)).trans hO.m, h.i, h.s1, h.s2, (g _ 0 (by omega)).trans hO.p, by omega, hout.below h.b, (hes.below hO.b).below h.b⟩

/-- The number in a cell. -/
def cellN (w : World) (b : Nat) : Nat := match w.cell? ⟨b, 0, none⟩ with
  | some (.int _ z) => z.toNat
  | _ => 0
theorem cellN_of {w : World} {b x : Nat} (h : w.cell? ⟨b, 0, none⟩ = some (.int .i64 x)) : cellN w b = x := by unfold cellN; rw [h]; rfl
theorem enters114 : ∀ args w, (callFunc 114 args).run Try.prog w = .ok (.enter 114 args) w := fun _ _ => rfl
theorem idn_get {n t : Nat} (h : t < (idn n).length) : (idn n)[t] = (t : Int) := by simp [idn]
/-- Does a number stand in the way? -/
def wayB (out : List Int) (es : List (Int × Int)) (s : Int × Int) (cv : Nat) (z : Int) : Bool := decide (out.getD z.toNat 0 = cv) && ovB s (es.getD z.toNat (0, 0))
theorem way_any {out : List Int} {es : List (Int × Int)} {s : Int × Int} {cv i : Nat} : ((idn i).any (wayB out es s cv) = true) ↔ ∃ j, j < i ∧ out.getD j 0 = cv ∧ ovB s (es.getD j (0, 0)) = true := by
  rw [List.any_eq_true]
  constructor
  · rintro ⟨z, hz, hw⟩
    have h1 := mem_idn.1 hz
    obtain ⟨j, rfl⟩ := Int.eq_ofNat_of_zero_le h1.1
    unfold wayB at hw
    rw [Bool.and_eq_true, Int.toNat_natCast, decide_eq_true_eq] at hw
    exact ⟨j, by omega, hw.1, hw.2⟩
  · rintro ⟨j, hj, h1, h2⟩
    refine ⟨(j : Int), mem_idn.2 (by omega), ?_⟩
    unfold wayB
    rw [Bool.and_eq_true, Int.toNat_natCast, decide_eq_true_eq]
    exact ⟨h1, h2⟩

def FitI (w0 : World) (A : Option Addr) (c n : Nat) (es : List (Int × Int)) (v : Value) (wr : World) : Prop :=
  ∃ (i : Nat) (out : List Int) (u : Value), v = .int .i64 i ∧ i ≤ n ∧ Hid (i = out.length) ∧ Hid (FitOk es out) ∧ Hid (FitO w0 A c es out u wr)
def FcI (W1 : World) (i : Nat) (s1 s2 : Int) (out : List Int) (es : List (Int × Int)) (wr : World) : Prop :=
  ∃ cv : Nat, cv ≤ i ∧ Hid (∀ d : Nat, d < cv → ∃ j, j < i ∧ out.getD j 0 = d ∧ ovB (s1, s2) (es.getD j (0, 0)) = true) ∧ Hid (FIn W1 i s1 s2 cv wr)

set_option maxHeartbeats 8000000 in
theorem fit_calls (A : Option Addr) (n c : Nat) (es : List (Int × Int)) (w : World) (hn : n = es.length) (hA : RdE w A es) (_hl : n ≤ c) (_hc : c ≤ 9223372036854775807) (ho : SpOk es) :
    Calls Try.prog 101 #[.slice A n c, .func (.func 102) #[] #[], .func (.func 103) #[] #[]] w fun e w' => ∃ v out, e = .returned v ∧ Ow w' w.heap.size v out ∧ out.length = n ∧ FitOk es out ∧ Below w.heap.size w w' := by
  have HN := Lib.hid hn
  have HA := Lib.hid hA
  have HO := Lib.hid ho
  have HOV : Hid (∀ e ∈ es, 0 ≤ e.1 ∧ e.1 < e.2) := fun e he => ⟨(HO.out.2 e he).1, (HO.out.2 e he).2.1⟩
  have hn40 : n ≤ 40 := by have := ho.1; omega
  have HNEW := Lib.hid (fito_new w A c n es hn)
  clear hn hA ho
  go_enter Try.func101, Try.ntmps101
  go_wp2_with fail
  go_loopw [13] (FitI w A c n es) (fun v _ => n - (intOf v).toNat)
  case atStart => exact ⟨0, [], _, rfl, Nat.zero_le _, rfl, (fun i h => absurd h (by simp)), HNEW.out⟩
  case round =>
    obtain ⟨i, out, u, rfl, hi, HOL, HOK, HFO0⟩ := hrel
    obtain ⟨W1, hW1⟩ : ∃ q, q = wr := ⟨_, rfl⟩
    rw [← hW1] at HFO0 ⊢
    clear hW1
    obtain ⟨G, oc, rfl, ho1, ho2, -, hrd⟩ := HFO0.out.ow.sl
    have HFO : Hid (FitO w A c es out (.slice G out.length oc) W1) := HFO0.out
    have HRD := Lib.hid hrd
    clear hrd HFO0
    by_cases hlt : i < n
    · have hil : i < es.length := by have := HN.out; omega
      obtain ⟨b, o, rfl, hb, d1, d2⟩ := (HA.out.below HFO.out.b).at i hil
      have hsp := HO.out.2 _ (List.getElem_mem hil)
      have HES : Hid (es.getD i (0, 0) = es[i]) := by show _ = _; rw [List.getD_eq_getElem?_getD, List.getElem?_eq_getElem hil]; rfl
      obtain ⟨s1, hs1⟩ : ∃ z, z = es[i].1 := ⟨_, rfl⟩
      obtain ⟨s2, hs2⟩ : ∃ z, z = es[i].2 := ⟨_, rfl⟩
      have HES2 : Hid (es.getD i (0, 0) = (s1, s2)) := by show _ = _; rw [HES.out, hs1, hs2]
      rw [← hs1] at d1 hsp
      rw [← hs2] at d2 hsp
      obtain ⟨sp0, sp1, sp2⟩ := hsp
      clear hs1 hs2 HES hil hb
      have HFN := Lib.hid (fin_new W1 i s1 s2)
      go_upto_block 2 with (refine (zero_calls _ _).mono ?_; rintro e w' ⟨rfl, rfl⟩)
      obtain ⟨W2, hW2⟩ : ∃ W2, W2 = (((W1.alloc (.cells #[.int .i64 i] 3)).alloc (.cells #[.int .i64 s1, .int .i64 s2] 60)).alloc (.cells #[.int .i64 0] 3)) := ⟨_, rfl⟩
      rw [← hW2] at HFN ⊢
      clear hW2 d1 d2
      go_wp2_with fail
      go_loopw [21] (fun _ wq => FcI W1 i s1 s2 out es wq) (fun _ wq => 100 - cellN wq (W1.heap.size + 1 + 1))
      case atStart => exact ⟨0, Nat.zero_le _, fun d hd => absurd hd (Nat.not_lt_zero _), HFN.out⟩
      case round =>
        obtain ⟨cv, hcv, HSE, HF⟩ := hrel
        have hci := HF.out.i
        go_wp2_with fail
        refine (below_calls i (by omega) wr).mono ?_
        rintro e w3 ⟨rfl, har, hb3⟩
        have HAR := Lib.hid har
        have HF3 := Lib.hid (HF.out.below hb3)
        have HB3 := Lib.hid hb3
        clear har hb3 hci
        have CP := Lib.hid (Pt.containsFunc_calls' 114 #[.pointer (some ⟨w.heap.size + 1 + 1, 0, none⟩), .pointer (some ⟨W1.heap.size + 1 + 1, 0, none⟩), .pointer (some ⟨w.heap.size + 1, 0, none⟩), .pointer (some ⟨W1.heap.size, 0, none⟩), .pointer (some ⟨W1.heap.size + 1, 0, none⟩), .pointer (some ⟨w.heap.size, 0, none⟩)] enters114 (wayB out es (s1, s2) cv) (some ⟨wr.heap.size, 0, none⟩) i i (idn i) w3 (idn_len i).symm HAR.out.rd (Nat.le_refl _) (by omega) (by
          intro t W ht hbw
          have hti : t < i := by rw [idn_len] at ht; exact ht
          have hto : t < out.length := by have := HOL.out; omega
          have hte : t < es.length := by have := HN.out; omega
          have q := fit1_calls _ _ _ _ _ _ _ _ _ _ _ _ _ _ _ _ _ ((HF3.out.below hbw).env HFO.out HA.out HRD.out) ⟨sp0, sp1⟩ HOV.out t hto hte
          have hp : wayB out es (s1, s2) cv ((idn i)[t]) = (decide (out[t] = (cv : Int)) && ovB (s1, s2) es[t]) := by
            unfold wayB
            rw [idn_get, Int.toNat_natCast, getD_lt 0 () hto, getD_lt (0, 0) () hte]
          rw [hp, idn_get]
          exact q))
        cases hw : (idn i).any (wayB out es (s1, s2) cv)
        · have HNO : Hid (∀ j, j < out.length → ovB (es.getD out.length (0, 0)) (es.getD j (0, 0)) = true → out.getD j 0 ≠ cv) := by
            intro j hj h1 h2
            have : (idn i).any (wayB out es (s1, s2) cv) = true := way_any.2 ⟨j, by rw [HOL.out]; exact hj, h2, by rw [← HES2.out, HOL.out]; exact h1⟩
            rw [hw] at this
            cases this
          have HSE2 : Hid (∀ d : Nat, d < cv → ∃ j, j < out.length ∧ out.getD j 0 = d ∧ ovB (es.getD out.length (0, 0)) (es.getD j (0, 0)) = true) := by
            intro d hd
            obtain ⟨j, a1, a2, a3⟩ := HSE.out d hd
            exact ⟨j, by rw [← HOL.out]; exact a1, a2, by rw [← HOL.out, HES2.out]; exact a3⟩
          have HOK2 := Lib.hid (fitok_snoc HOK.out (by rw [← HOL.out]; exact hcv) HNO.out HSE2.out)
          rw [hw] at CP
          clear hw
          go_wp2_with fail
          refine CP.out.mono ?_
          rintro e w4 ⟨rfl, hb4⟩
          have HF4 := Lib.hid (HF3.out.below hb4)
          have HFO4 := Lib.hid (HFO.out.below HF4.out.b)
          have ho4 := HFO4.out.o
          have hf4 := HFO4.out.f
          have hc4 := HF4.out.c
          obtain ⟨A', n', c', w5, hrun, ho5, hb5⟩ := ow_push (cv : Int) HFO4.out.ow HFO4.out.s (by have := HOL.out; omega)
          have HRUN := Lib.hid hrun
          have HP5 := Lib.hid (HFO4.out.push ho5 hb5)
          have ho5' : w5.cell? ⟨w.heap.size + 1 + 1, 0, none⟩ = some (.slice G out.length oc) := (hb5.cell (p := ⟨w.heap.size + 1 + 1, 0, none⟩) (by show w.heap.size + 1 + 1 < _; omega)).trans ho4
          have hf5 : w5.frozen? ⟨w.heap.size + 1 + 1, 0, none⟩ = false := (hb5.frozen (p := ⟨w.heap.size + 1 + 1, 0, none⟩) (by show w.heap.size + 1 + 1 < _; omega)).trans hf4
          clear hb4 hrun ho5 hb5 CP HF HF3 HAR HB3
          go_wp2_with (at_builtin; refine wpList_app rfl (.tmp 27) (.tmp 29) 27 27 rfl rfl _ _ rfl rfl HRUN.out ?_)
          go_roundw
          case rel => exact ⟨i + 1, _, _, by go_num, hlt, by show _ = _; rw [List.length_append, ← HOL.out]; rfl, HOK2.out, HP5.out⟩
          case measure => simp [intOf]; omega
        · obtain ⟨j, hj, h1, h2⟩ := way_any.1 hw
          have hcv2 : cv + 1 ≤ i := by
            have := (HOK.out j (by have := HOL.out; omega)).1
            omega
          have HSE2 : Hid (∀ d : Nat, d < cv + 1 → ∃ j, j < i ∧ out.getD j 0 = d ∧ ovB (s1, s2) (es.getD j (0, 0)) = true) := by
            intro d hd
            by_cases e : d = cv
            · subst e; exact ⟨j, hj, h1, h2⟩
            · exact HSE.out d (by omega)
          rw [hw] at CP
          have HCN := Lib.hid (cellN_of HF.out.c)
          clear hw h1 h2 hj j
          go_wp2_with fail
          refine CP.out.mono ?_
          rintro e w4 ⟨rfl, hb4⟩
          have HF4 := Lib.hid (HF3.out.below hb4)
          have hc4 := HF4.out.c
          have hf4 := HF4.out.f
          have HF5 := Lib.hid (HF4.out.set (cv + 1))
          have HCN5 := Lib.hid (cellN_of HF5.out.c)
          clear hb4 CP HF HF3 HAR HB3
          go_wp2_with fail
          go_roundw
          case rel => exact ⟨cv + 1, hcv2, HSE2.out, HF5.out⟩
          case measure =>
            have e5 := HCN5.out
            rw [show ((cv + 1 : Nat) : Int) = (cv : Int) + 1 by omega] at e5
            rw [HCN.out, e5]
            omega
    · have HLE : Hid (out.length = n) := by show _ = _; rw [← HOL.out]; omega
      have hoo := HFO.out.o
      have HB := Lib.hid HFO.out.b
      have HOW : Hid (Ow W1 w.heap.size (.slice G out.length oc) out) := HFO.out.ow.weaken (by omega)
      go_wp2_with fail
      go_ret
      exact ⟨_, out, rfl, HOW.out, HLE.out, HOK.out, HB.out⟩

theorem first_calls (A : Option Addr) (n c : Nat) (es : List (Int × Int)) (w : World) (hn : n = es.length) (hA : RdE w A es) (hl : n ≤ c) (hc : c ≤ 9223372036854775807) (ho : SpOk es) :
    Calls Try.prog 60 #[.slice A n c] w fun e w' => ∃ v out, e = .returned v ∧ Ow w' w.heap.size v out ∧ out.length = n ∧ FitOk es out ∧ Below w.heap.size w w' := by
  have CP := Lib.hid (fit_calls A n c es w hn hA hl hc ho)
  clear hn hA hl hc ho
  go_enter Try.func60, Try.ntmps60
  go_wp2_with fail
  refine CP.out.mono ?_
  rintro e w1 ⟨v, out, rfl, h1, h2, h3, h4⟩
  have H1 := Lib.hid h1
  have H2 := Lib.hid h2
  have H3 := Lib.hid h3
  have H4 := Lib.hid h4
  clear h1 h2 h3 h4
  go_wp2_with fail
  go_ret
  exact ⟨v, out, rfl, H1.out, H2.out, H3.out, H4.out⟩
end Go.Proofs.Ythnhmfmlhlpggaa
