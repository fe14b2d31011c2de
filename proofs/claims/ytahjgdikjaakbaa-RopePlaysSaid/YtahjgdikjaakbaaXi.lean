/- What is proved: a tower and the reference's tower beside one another. No condition beyond those in each statement. -/
import Derived.Test.YtahjgdikjaakbaaXg
import Derived.Test.YtahjgdikjaakbaaXe
import Derived.Test.YtahjgdikjaakbaaXf
import Derived.Test.YtahjgdikjaakbaaZN
namespace Go.Proofs.Ytahjgdikjaakbaa
open Go.RowKit

theorem sumN_nought (n : Nat) : sumN (fun _ => 0) n = 0 := by
  induction n with
  | zero => rfl
  | succ n ih => unfold sumN; rw [ih]
theorem flt_len_all (n : Nat) (l : List Cal) (h : ∀ c, c ∈ l → c.1 < n ∧ c.2.1 < n) : sumN (fun a => sumN (fun b => (fltR l a b).length) n) n = l.length := by
  induction l with
  | nil =>
    have : (fun a : Nat => sumN (fun b => (fltR [] a b).length) n) = fun _ => 0 := by
      funext a
      have : (fun b : Nat => (fltR [] a b).length) = fun _ => 0 := by funext b; rfl
      rw [this, sumN_nought]
    rw [this, sumN_nought]
    rfl
  | cons c l ih =>
    obtain ⟨i, j, x⟩ := c
    have hc := h (i, j, x) (by simp)
    have hi : i < n := hc.1
    have hj : j < n := hc.2
    have hl := ih fun c hc => h c (List.mem_cons_of_mem _ hc)
    have e0 : ∀ a b, fltR ((i, j, x) :: l) a b = fltR [(i, j, x)] a b ++ fltR l a b := fun a b => by rw [← fltR_app]; rfl
    have h1 := sumN_upd (f := fun b => (fltR l i b).length) (g := fun b => (fltR ((i, j, x) :: l) i b).length) (n := n) (i := j) hj (fun b _ hne => by
      show (fltR ((i, j, x) :: l) i b).length = _
      rw [e0, fltR_other x (by omega), List.nil_append])
    have h2 := sumN_upd (f := fun a => sumN (fun b => (fltR l a b).length) n) (g := fun a => sumN (fun b => (fltR ((i, j, x) :: l) a b).length) n) (n := n) (i := i) hi (fun a _ hne => sumN_congr fun b _ => by
      show (fltR ((i, j, x) :: l) a b).length = _
      rw [e0, fltR_other x (by omega), List.nil_append])
    have e1 : (fltR ((i, j, x) :: l) i j).length = (fltR l i j).length + 1 := by rw [e0, fltR_same, List.length_append]; simp; omega
    rw [List.length_cons]
    omega
theorem Flt.len {l : List Cal} {t : TS} (h : Flt l t) : l.length = t.cals.length := by
  rw [cals_len, ← flt_len_all t.n l h.lt]
  unfold TS.tot
  exact sumN_congr fun a ha => sumN_congr fun b hb => by rw [h.fl a b ha hb]
theorem Flt.le {l : List Cal} {t : TS} {k : Nat} (h : Flt l t) (O : Ok t k) (hk : k ≤ 10000) : l.length ≤ 80000 := by
  rw [h.len, cals_len]
  have := O.2.tt
  have := O.2.s0
  omega
/-- A tower, and the reference's one, of other blocks than those that are to stay. -/
structure Pq (f : Fr) (T R : Nat) (t s : TS) (X : Nat → Prop) (l : List Cal) (m : RM) (w : World) : Prop where
  tw : Tw w T t X
  rl : RLow w R s l m
  fl : Flt l s
  ap : ∀ g, X g → ¬ rfp R s.n m g
  fr : ∀ g, f.Y g → ¬ X g ∧ ¬ rfp R s.n m g
  kp : Kp f w
def Pl (f : Fr) (T R : Nat) (t s : TS) (w : World) : Prop := ∃ X l m, Pq f T R t s X l m w
section
variable {f : Fr} {T R : Nat} {t s : TS} {w w' : World} {k : Nat} {X : Nat → Prop} {l : List Cal} {m : RM}
theorem rfp_lt {n : Nat} (h : RLow w R s l m) (hn : s.n = n) : ∀ g, rfp R n m g → g < w.heap.size := by
  subst hn
  rintro g ⟨x, hx⟩
  exact h.lt x g hx
theorem Pl.kp (h : Pl f T R t s w) : Kp f w := by
  obtain ⟨_, _, _, h⟩ := h
  exact h.kp
theorem Pq.below (h : Pq f T R t s X l m w) (hb : Below w.heap.size w w') : Pq f T R t s X l m w' := ⟨h.tw.below hb, h.rl.below hb, h.fl, h.ap, h.fr, h.kp.below hb⟩
theorem Pl.below (h : Pl f T R t s w) (hb : Below w.heap.size w w') : Pl f T R t s w' := by
  obtain ⟨X, l, m, h⟩ := h
  exact ⟨X, l, m, h.below hb⟩
theorem Pl.drew (h : Pl f T R t s w) : Pl f T R t s w.drew := h.below (Below.refl _ _).drew
/-- The tower acts. -/
theorem Pq.stepT {t' : TS} (p : Pq f T R t s X l m w) (h : Stp T X w t' w') : Pl f T R t' s w' := by
  obtain ⟨X', k1, k2, k3⟩ := h
  have hs := rfp_lt p.rl rfl
  refine ⟨X', l, m, k1, p.rl.same fun x g hx => k2.block g (hs g ⟨x, hx⟩) fun hX => p.ap g hX ⟨x, hx⟩, p.fl, fun g hg hr => ?_, fun g hg => ⟨fun hx => ?_, (p.fr g hg).2⟩, p.kp.off k2 fun g hg => (p.fr g hg).1⟩
  · rcases k3 g hg with h | h
    · exact p.ap g h hr
    · have := hs g hr; omega
  · rcases k3 g hx with h | h
    · exact (p.fr g hg).1 h
    · have := f.lt g hg; have := p.kp.size; omega
/-- The reference's tower acts. -/
theorem Pq.stepR {s' : TS} {l' : List Cal} {m' : RM} (p : Pq f T R t s X l m w) (k1 : RMv R s.n m w s' l' m' w') (k2 : Flt l' s') : Pl f T R t s' w' := by
  have hl := p.tw.lt
  have en := k1.en
  refine ⟨X, l', m', p.tw.off k1.off fun g hg => p.ap g hg, k1.low, k2, fun g hg hr => ?_, fun g hg => ⟨(p.fr g hg).1, fun hx => ?_⟩, p.kp.off k1.off fun g hg => (p.fr g hg).2⟩
  · rw [en] at hr
    rcases k1.sub g hr with h | h
    · exact p.ap g hg h
    · have := hl g hg; omega
  · rw [en] at hx
    rcases k1.sub g hx with h | h
    · exact (p.fr g hg).2 h
    · have := f.lt g hg; have := p.kp.size; omega
theorem pl_want (h : Pl f T R t s w) (O : Ok t k) (hk : k ≤ 10000) (i : Int) : Calls Try.prog 32 #[.pointer (some ⟨T, 0, none⟩), .int .i64 i] w fun e w' => e = .returned (.int .i64 (t.wantE i)) ∧ Pl f T R (t.want i) s w' := by
  obtain ⟨X, l, m, h⟩ := h
  exact (tw_want h.tw O.1 O.2 hk i).mono fun _ _ ⟨he, hs⟩ => ⟨he, h.stepT hs⟩
theorem pl_leave (h : Pl f T R t s w) (O : Ok t k) (hk : k ≤ 10000) (i : Int) : Calls Try.prog 34 #[.pointer (some ⟨T, 0, none⟩), .int .i64 i] w fun e w' => e = .returned (.int .i64 (t.leaveE i)) ∧ Pl f T R (t.leaveI i) s w' := by
  obtain ⟨X, l, m, h⟩ := h
  exact (tw_leave h.tw O.1 O.2 hk i).mono fun _ _ ⟨he, hs⟩ => ⟨he, h.stepT hs⟩
theorem pl_deliver (h : Pl f T R t s w) (O : Ok t k) (hk : k ≤ 10000) (a b : Int) : Calls Try.prog 37 #[.pointer (some ⟨T, 0, none⟩), .int .i64 a, .int .i64 b] w fun e w' => e = .returned (.int .i64 (t.delE a b)) ∧ Pl f T R (t.delI a b) s w' := by
  obtain ⟨X, l, m, h⟩ := h
  exact (tw_deliver h.tw O.1 O.2 hk a b).mono fun _ _ ⟨he, hs⟩ => ⟨he, h.stepT hs⟩
theorem pl_rwant (h : Pl f T R t s w) (O : Ok s k) (hk : k ≤ 10000) (i : Int) : Calls Try.prog 33 #[.pointer (some ⟨R, 0, none⟩), .int .i64 i] w fun e w' => e = .returned (.int .i64 (s.wantE i)) ∧ Pl f T R t (s.want i) w' := by
  obtain ⟨X, l, m, h⟩ := h
  exact (refwant_calls h.rl O hk (h.fl.le O hk) i).mono fun _ _ ⟨he, m', hs⟩ => ⟨he, h.stepR hs (h.fl.want i)⟩
theorem pl_rleave (h : Pl f T R t s w) (O : Ok s k) (hk : k ≤ 10000) (i : Int) : Calls Try.prog 35 #[.pointer (some ⟨R, 0, none⟩), .int .i64 i] w fun e w' => e = .returned (.int .i64 (s.leaveE i)) ∧ Pl f T R t (s.leaveI i) w' := by
  obtain ⟨X, l, m, h⟩ := h
  exact (refleave_calls h.rl O hk (h.fl.le O hk) i).mono fun _ _ ⟨he, m', hs⟩ => ⟨he, h.stepR hs (h.fl.leave O.1 i)⟩
theorem pl_rdeliver (h : Pl f T R t s w) (O : Ok s k) (hk : k ≤ 10000) (a b : Int) : Calls Try.prog 38 #[.pointer (some ⟨R, 0, none⟩), .int .i64 a, .int .i64 b] w fun e w' => e = .returned (.int .i64 (s.delE a b)) ∧ Pl f T R t (s.delI a b) w' := by
  obtain ⟨X, l, m, h⟩ := h
  exact (refdel_calls h.rl h.fl O hk (h.fl.le O hk) a b).mono fun _ _ ⟨he, l', m', hs, hf⟩ => ⟨he, h.stepR hs hf⟩
theorem pl_calls (h : Pl f T R t s w) (O : Ok s k) (hk : k ≤ 10000) : Calls Try.prog 36 #[.pointer (some ⟨R, 0, none⟩)] w fun e w' => ∃ v, e = .returned v ∧ OwC w' w.heap.size v s.cals ∧ Below w.heap.size w w' := by
  obtain ⟨X, l, m, h⟩ := h
  exact refcalls_calls h.rl h.fl O.1.hn.2 (h.fl.le O hk) (by rw [← h.fl.len]; exact h.fl.le O hk)
theorem pl_clone (h : Pl f T R t s w) (O : Ok t k) (hk : k ≤ 10000) : Calls Try.prog 31 #[.pointer (some ⟨T, 0, none⟩)] w fun e w' => ∃ T2, e = .returned (.pointer (some ⟨T2, 0, none⟩)) ∧ Pl f T2 R t s w' := by
  obtain ⟨X, l, m, h⟩ := h
  refine (tw_clone h.tw O hk).mono ?_
  rintro e w' ⟨T2, X2, rfl, h2, hf, hb⟩
  have hs := rfp_lt h.rl rfl
  refine ⟨T2, rfl, X2, l, m, h2, h.rl.below hb, h.fl, fun g hg hr => ?_, fun g hg => ⟨fun hx => ?_, (h.fr g hg).2⟩, h.kp.below hb⟩
  · have := hf g hg; have := hs g hr; omega
  · have := hf g hx; have := f.lt g hg; have := h.kp.size; omega
theorem pl_served (h : Pl f T R t s w) (O : Ok t k) : Calls Try.prog 25 #[.pointer (some ⟨T, 0, none⟩)] w fun e w' => ∃ v, e = .returned v ∧ Ow w' w.heap.size v t.served ∧ Below w.heap.size w w' := by
  obtain ⟨X, l, m, h⟩ := h
  exact tw_served h.tw O.1
theorem pl_known (h : Pl f T R t s w) (i : Int) : Calls Try.prog 26 #[.pointer (some ⟨T, 0, none⟩), .int .i64 i] w fun e w' => ∃ v, e = .returned v ∧ Ow w' w.heap.size v (t.kno i) ∧ Below w.heap.size w w' := by
  obtain ⟨X, l, m, h⟩ := h
  exact tw_known h.tw i
/-- New ones. -/
theorem tw_new {n h : Nat} (w : World) (hn : 1 ≤ n ∧ n ≤ 6) (hh : h < n) : Calls Try.prog 28 #[.int .i64 n, .int .i64 h] w fun e w' => ∃ T X, e = .returned (.tuple #[.pointer (some ⟨T, 0, none⟩), .int .i64 0]) ∧ Tw w' T (TS.made n h) X ∧ (∀ g, X g → w.heap.size ≤ g) ∧ Below w.heap.size w w' := by
  refine (new_calls w hn hh).mono ?_
  rintro e w' ⟨rfl, K, v, I⟩
  obtain ⟨s, U, hf⟩ := new_up I hn
  exact ⟨_, _, rfl, ⟨s, U, rfl⟩, hf, I.bel⟩
theorem pl_new {n h : Nat} (w0 : World) {T : Nat} {w w2 : World} {X : Nat → Prop} (h1 : Tw w T (TS.made n h) X) (hX : ∀ g, X g → w0.heap.size ≤ g) (hb : Below w0.heap.size w0 w) (R : Nat) (m : RM) (h2 : RLow w2 R (TS.made n h) [] m) (hR : ∀ g, rfp R n m g → w.heap.size ≤ g) (hb2 : Below w.heap.size w w2) : Pl (Fr.of w0) T R (TS.made n h) (TS.made n h) w2 := by
  have hl := h1.lt
  refine ⟨X, [], m, h1.below hb2, h2, ⟨fun i j hi hj => rfl, fun c hc => by cases hc⟩, fun g hg hr => ?_, fun g hg => ⟨fun hx => ?_, fun hx => ?_⟩, ?_⟩
  · have := hl g hg; have := hR g hr; omega
  · have := hX g hx; have : g < w0.heap.size := hg; omega
  · have := hR g hx; have : g < w0.heap.size := hg; have := hb.size; omega
  · have hb3 := hb.trans (hb2.mono hb.size)
    exact ⟨hb3.os, hb3.tape, hb3.output, hb3.size, hb3.block⟩
/-- A block of one's own joins the frame, and leaves it. -/
theorem Pl.more (h : Pl f T R t s w) (hb : Below w.heap.size w w') {A : Nat} (hA : w.heap.size ≤ A) (hA2 : A < w'.heap.size) : ∃ f2 : Fr, f2.w = w' ∧ f2.Y A ∧ Pl f2 T R t s w' ∧ (∀ g, f.Y g → f2.Y g) ∧ ∀ T2 t2 s2 w2, Pl f2 T2 R t2 s2 w2 → Pl f T2 R t2 s2 w2 := by
  obtain ⟨X, l, m, h⟩ := h
  have hl := h.tw.lt
  have hs := rfp_lt h.rl rfl
  have hfl : ∀ g, f.Y g → g < w'.heap.size := fun g hg => by have := f.lt g hg; have := h.kp.size; have := hb.size; omega
  refine ⟨⟨w', fun g => f.Y g ∨ g = A, fun g hg => ?_⟩, rfl, .inr rfl, ⟨X, l, m, h.tw.below hb, h.rl.below hb, h.fl, h.ap, fun g hg => ?_, ⟨rfl, rfl, rfl, Nat.le_refl _, fun _ _ => rfl⟩⟩, fun g hg => .inl hg, fun T2 t2 s2 w2 h2 => ?_⟩
  · rcases hg with hg | hg
    · exact hfl g hg
    · omega
  · rcases hg with hg | rfl
    · exact h.fr g hg
    · exact ⟨fun hx => by have := hl _ hx; omega, fun hx => by have := hs _ hx; omega⟩
  · obtain ⟨X2, l2, m2, h2⟩ := h2
    have kp := h2.kp
    have kq := h.kp.below hb
    exact ⟨X2, l2, m2, h2.tw, h2.rl, h2.fl, h2.ap, fun g hg => h2.fr g (.inl hg), ⟨kp.os.trans kq.os, kp.tape.trans kq.tape, kp.output.trans kq.output, Nat.le_trans kq.size kp.size, fun g hg => (kp.block g (.inl hg)).trans (kq.block g hg)⟩⟩
end
end Go.Proofs.Ytahjgdikjaakbaa
