/- What is proved: the reference's tower in memory. No condition beyond those in each statement. -/
import Derived.Test.YtahjgdikjaakbaaZH
import Derived.Test.YtahjgdikjaakbaaPd
namespace Go.Proofs.Ytahjgdikjaakbaa
open Go.RowKit

/-- Where the reference's tower lies. -/
structure RM where
  S : Nat
  KB : Nat
  kc : Nat
  SV : Nat
  K : Nat → Nat
  qv : Value
  fv : Value
inductive RIx where
  | T
  | S
  | B
  | V
  | Q
  | F
  | K (i : Nat)
def rblk (R n : Nat) (m : RM) : RIx → Option Nat
  | .T => some R
  | .S => some m.S
  | .B => some m.KB
  | .V => some m.SV
  | .Q => m.qv.ownBlock
  | .F => m.fv.ownBlock
  | .K i => if i < n then some (m.K i) else none
def refC (t : TS) (m : RM) : Array Value := #[.slice (some ⟨m.S, 0, none⟩) t.n t.n, .slice (some ⟨m.KB, 0, none⟩) t.n m.kc, .slice (some ⟨m.SV, 0, none⟩) t.n t.n, m.qv, .int .i64 t.holder, m.fv, .int .i64 t.sent]
def kbV (K : Nat → Nat) (n k : Nat) : List Value := (List.range k).map fun i => .slice (some ⟨K i, 0, none⟩) n n
theorem kbV_len (K : Nat → Nat) (n k : Nat) : (kbV K n k).length = k := by simp [kbV]
structure RLow (w : World) (R : Nat) (t : TS) (l : List Cal) (m : RM) : Prop where
  hT : w.heap[R]? = some (.cells (refC t m) 80 (0, 0))
  hS : Row w 3 m.S 0 t.n (intsV t.mood)
  hB : Row w 36 m.KB 0 m.kc (kbV m.K t.n t.n)
  hV : Row w 3 m.SV 0 t.n (intsV t.served)
  hK : ∀ i, i < t.n → Row w 3 (m.K i) 0 t.n (intsV (t.known.getD i []))
  hQ : Ow w 0 m.qv t.queue
  hF : OwC w 0 m.fv l
  inj : ∀ x y g, rblk R t.n m x = some g → rblk R t.n m y = some g → x = y
section
variable {w w' : World} {R : Nat} {t : TS} {l : List Cal} {m : RM}
theorem RLow.lt (h : RLow w R t l m) : ∀ x g, rblk R t.n m x = some g → g < w.heap.size := by
  intro x g hx
  cases x with
  | T => cases hx; exact (Array.getElem?_eq_some_iff.1 h.hT).1
  | S => cases hx; exact h.hS.lt
  | B => cases hx; exact h.hB.lt
  | V => cases hx; exact h.hV.lt
  | Q => exact (World.ownsRow.lt h.hQ g hx).2
  | F => exact (World.ownsRow.lt h.hF g hx).2
  | K i =>
    have hx : (if i < t.n then some (m.K i) else none) = some g := hx
    split at hx
    · rename_i hi; cases hx; exact (h.hK i hi).lt
    · cases hx
theorem Ow.same {v : Value} {xs : List Int} {b : Nat} (h : Ow w b v xs) (e : ∀ g, v.ownBlock = some g → w'.heap[g]? = w.heap[g]?) : Ow w' b v xs := by
  refine ⟨h.1, h.2.imp id ?_⟩
  rintro ⟨g, cap, cur, rfl, h1, h2, h3⟩
  exact ⟨g, cap, cur, rfl, h1, by rw [e g rfl]; exact h2, h3⟩
theorem OwC.same {v : Value} {xs : List Cal} {b : Nat} (h : OwC w b v xs) (e : ∀ g, v.ownBlock = some g → w'.heap[g]? = w.heap[g]?) : OwC w' b v xs := by
  refine ⟨h.1, h.2.imp id ?_⟩
  rintro ⟨g, cap, cur, rfl, h1, h2, h3⟩
  exact ⟨g, cap, cur, rfl, h1, by rw [e g rfl]; exact h2, h3⟩
theorem RLow.same (h : RLow w R t l m) (e : ∀ x g, rblk R t.n m x = some g → w'.heap[g]? = w.heap[g]?) : RLow w' R t l m :=
  ⟨(e .T R rfl).trans h.hT, h.hS.same (e .S _ rfl), h.hB.same (e .B _ rfl), h.hV.same (e .V _ rfl), fun i hi => (h.hK i hi).same (e (.K i) _ (if_pos hi)), h.hQ.same (e .Q), h.hF.same (e .F), h.inj⟩
theorem RLow.below (h : RLow w R t l m) (hb : Below w.heap.size w w') : RLow w' R t l m := h.same fun x g hx => hb.block g (h.lt x g hx)
theorem RLow.ne (h : RLow w R t l m) {x y : RIx} {a b : Nat} (hx : rblk R t.n m x = some a) (hy : rblk R t.n m y = some b) (hne : x ≠ y) : a ≠ b := by
  rintro rfl
  exact hne (h.inj x y a hx hy)
theorem RLow.rest (h : RLow w R t l m) {x0 : RIx} {p : Addr} (hx : rblk R t.n m x0 = some p.block) (v : Value) : ∀ y g, rblk R t.n m y = some g → y ≠ x0 → (w.setCell p v).heap[g]? = w.heap[g]? := by
  intro y g hy hne
  exact heap_setCell_other w p g _ (h.ne hy hx hne)
theorem RLow.cT (h : RLow w R t l m) (i : Nat) (v : Value) (hv : (refC t m)[i]? = some v) : w.cell? ⟨R, i, none⟩ = some v := by
  rw [cell_of_row w R i _ 80 (0, 0) h.hT]
  exact hv
theorem RLow.fT (h : RLow w R t l m) (i : Nat) : w.frozen? ⟨R, i, none⟩ = false := by
  simp [World.frozen?, h.hT]
theorem RLow.cells (h : RLow w R t l m) : w.cell? ⟨R, 0, none⟩ = some (.slice (some ⟨m.S, 0, none⟩) t.n t.n) ∧ w.cell? ⟨R, 1, none⟩ = some (.slice (some ⟨m.KB, 0, none⟩) t.n m.kc) ∧ w.cell? ⟨R, 2, none⟩ = some (.slice (some ⟨m.SV, 0, none⟩) t.n t.n) ∧ w.cell? ⟨R, 3, none⟩ = some m.qv ∧ w.cell? ⟨R, 4, none⟩ = some (.int .i64 t.holder) ∧ w.cell? ⟨R, 5, none⟩ = some m.fv ∧ w.cell? ⟨R, 6, none⟩ = some (.int .i64 t.sent) :=
  ⟨h.cT 0 _ rfl, h.cT 1 _ rfl, h.cT 2 _ rfl, h.cT 3 _ rfl, h.cT 4 _ rfl, h.cT 5 _ rfl, h.cT 6 _ rfl⟩
theorem row_int {g off cap : Nat} {xs : List Int} (h : Row w 3 g off cap (intsV xs)) {i : Nat} (hi : i < xs.length) : w.cell? ⟨g, off + i, none⟩ = some (.int .i64 (xs.getD i 0)) := by
  rw [h.at i (by rw [intsV_len]; exact hi), intsV_at]
theorem RLow.cS (h : RLow w R t l m) (I : Inv t) {i : Nat} (hi : i < t.n) : w.cell? ⟨m.S, i, none⟩ = some (.int .i64 (t.m i)) := by
  have := row_int h.hS (i := i) (by rw [I.lm]; exact hi)
  rw [Nat.zero_add] at this
  exact this
theorem RLow.cV (h : RLow w R t l m) (I : Inv t) {i : Nat} (hi : i < t.n) : w.cell? ⟨m.SV, i, none⟩ = some (.int .i64 (t.s i)) := by
  have := row_int h.hV (i := i) (by rw [I.ls]; exact hi)
  rw [Nat.zero_add] at this
  exact this
theorem RLow.cB (h : RLow w R t l m) {i : Nat} (hi : i < t.n) : w.cell? ⟨m.KB, i, none⟩ = some (.slice (some ⟨m.K i, 0, none⟩) t.n t.n) := by
  have := h.hB.at i (by rw [kbV_len]; exact hi)
  rw [Nat.zero_add] at this
  rw [this]
  simp [kbV]
theorem RLow.cK (h : RLow w R t l m) (I : Inv t) {i j : Nat} (hi : i < t.n) (hj : j < t.n) : w.cell? ⟨m.K i, j, none⟩ = some (.int .i64 (t.k i j)) := by
  have := row_int (h.hK i hi) (i := j) (by rw [I.lki i hi]; exact hj)
  rw [Nat.zero_add] at this
  exact this
/-- A store into the tower's own cells. -/
theorem RLow.setT {t' : TS} {m' : RM} {l' : List Cal} (h : RLow w R t l m) (i : Nat) (v : Value) (ht : (refC t m).setIfInBounds i v = refC t' m') (en : t'.n = t.n) (em : t'.mood = t.mood) (ek : t'.known = t.known) (es : t'.served = t.served)
    (e1 : m'.S = m.S) (e2 : m'.KB = m.KB) (e3 : m'.kc = m.kc) (e4 : m'.SV = m.SV) (e5 : m'.K = m.K) (hq : Ow (w.setCell ⟨R, i, none⟩ v) 0 m'.qv t'.queue) (hf : OwC (w.setCell ⟨R, i, none⟩ v) 0 m'.fv l')
    (hj : ∀ x y g, rblk R t'.n m' x = some g → rblk R t'.n m' y = some g → x = y) : RLow (w.setCell ⟨R, i, none⟩ v) R t' l' m' := by
  have hr := h.rest (x0 := .T) (p := ⟨R, i, none⟩) rfl v
  have hk := heap_setCell_same w R i _ 80 v h.hT
  rw [ht] at hk
  refine ⟨hk, ?_, ?_, ?_, ?_, hq, hf, hj⟩
  · rw [e1, en, em]; exact h.hS.same (hr .S _ rfl (by simp))
  · rw [e2, e3, e5, en]; exact h.hB.same (hr .B _ rfl (by simp))
  · rw [e4, en, es]; exact h.hV.same (hr .V _ rfl (by simp))
  · intro a ha
    rw [en] at ha
    rw [e5, en, ek]
    exact (h.hK a ha).same (hr (.K a) _ (if_pos ha) (by simp))
/-- A store into a row of numbers. -/
theorem RLow.setM (h : RLow w R t l m) (I : Inv t) {i : Nat} (hi : i < t.n) (v : Int) : RLow (w.setCell ⟨m.S, i, none⟩ (.int .i64 v)) R { t with mood := t.mood.set i v } l m := by
  have hr := h.rest (x0 := .S) (p := ⟨m.S, i, none⟩) rfl (.int .i64 v)
  refine ⟨(hr .T _ rfl (by simp)).trans h.hT, ?_, h.hB.same (hr .B _ rfl (by simp)), h.hV.same (hr .V _ rfl (by simp)), fun a ha => (h.hK a ha).same (hr (.K a) _ (if_pos ha) (by simp)), h.hQ.same fun g hg => hr .Q g hg (by simp), h.hF.same fun g hg => hr .F g hg (by simp), h.inj⟩
  have := h.hS.set i (by rw [intsV_len, I.lm]; exact hi) (.int .i64 v)
  rw [Nat.zero_add, intsV_set] at this
  exact this
theorem RLow.setV (h : RLow w R t l m) (I : Inv t) {i : Nat} (hi : i < t.n) (v : Int) : RLow (w.setCell ⟨m.SV, i, none⟩ (.int .i64 v)) R { t with served := t.served.set i v } l m := by
  have hr := h.rest (x0 := .V) (p := ⟨m.SV, i, none⟩) rfl (.int .i64 v)
  refine ⟨(hr .T _ rfl (by simp)).trans h.hT, h.hS.same (hr .S _ rfl (by simp)), h.hB.same (hr .B _ rfl (by simp)), ?_, fun a ha => (h.hK a ha).same (hr (.K a) _ (if_pos ha) (by simp)), h.hQ.same fun g hg => hr .Q g hg (by simp), h.hF.same fun g hg => hr .F g hg (by simp), h.inj⟩
  have := h.hV.set i (by rw [intsV_len, I.ls]; exact hi) (.int .i64 v)
  rw [Nat.zero_add, intsV_set] at this
  exact this
theorem RLow.setK (h : RLow w R t l m) (I : Inv t) {i j : Nat} (hi : i < t.n) (hj : j < t.n) (v : Int) : RLow (w.setCell ⟨m.K i, j, none⟩ (.int .i64 v)) R { t with known := setK2 t.known i j v } l m := by
  have hr := h.rest (x0 := .K i) (p := ⟨m.K i, j, none⟩) (if_pos hi) (.int .i64 v)
  refine ⟨(hr .T _ rfl (by simp)).trans h.hT, h.hS.same (hr .S _ rfl (by simp)), h.hB.same (hr .B _ rfl (by simp)), h.hV.same (hr .V _ rfl (by simp)), fun a ha => ?_, h.hQ.same fun g hg => hr .Q g hg (by simp), h.hF.same fun g hg => hr .F g hg (by simp), h.inj⟩
  have ha : a < t.n := ha
  show Row _ 3 (m.K a) 0 t.n (intsV ((setK2 t.known i j v).getD a []))
  unfold setK2
  rw [getD_set _ _ _ _ _ (by rw [I.lk]; exact hi)]
  by_cases e : i = a
  · subst e
    rw [if_pos rfl, ← intsV_set]
    have := (h.hK i hi).set j (by rw [intsV_len, I.lki i hi]; exact hj) (.int .i64 v)
    rw [Nat.zero_add] at this
    exact this
  · rw [if_neg e]
    exact (h.hK a ha).same (hr (.K a) _ (if_pos ha) (by intro e2; injection e2 with e2; exact e e2.symm))
end
def rfp (R n : Nat) (m : RM) (g : Nat) : Prop := ∃ x, rblk R n m x = some g
/-- The reference's tower has become another one; no other memory has changed. -/
structure RMv (R n : Nat) (m : RM) (w : World) (t' : TS) (l' : List Cal) (m' : RM) (w' : World) : Prop where
  low : RLow w' R t' l' m'
  en : t'.n = n
  off : Off (rfp R n m) w w'
  sub : ∀ g, rfp R n m' g → rfp R n m g ∨ w.heap.size ≤ g
section
variable {w w' w1 : World} {R : Nat} {t t' t2 : TS} {l l' l2 : List Cal} {m m' m2 : RM} {n : Nat}
theorem RMv.refl (h : RLow w R t l m) : RMv R t.n m w t l m w := ⟨h, rfl, Off.refl _ _, fun _ h => .inl h⟩
theorem RMv.trans (h : RMv R n m w t l m' w') (k : RMv R n m' w' t2 l2 m2 w1) : RMv R n m w t2 l2 m2 w1 :=
  ⟨k.low, k.en, h.off.step k.off h.sub, fun g hg => by
    rcases k.sub g hg with h1 | h1
    · exact h.sub g h1
    · exact .inr (Nat.le_trans h.off.size h1)⟩
theorem RMv.below (h : RMv R n m w t l m' w') (hb : Below w'.heap.size w' w1) : RMv R n m w t l m' w1 :=
  ⟨h.low.below hb, h.en, h.off.trans ⟨hb.os, hb.tape, hb.output, hb.size, fun k hk _ => hb.block k hk⟩, h.sub⟩
theorem RMv.drewN (h : RMv R n m w t l m' w') (q : Nat) : RMv R n m w t l m' (w'.drewN q) := h.below (below_drewN (Below.refl _ _) _)
theorem RMv.set (h : RMv R n m w t l m' w') {p : Addr} (hp : rfp R n m' p.block) (v : Value) (k : RLow (w'.setCell p v) R t' l' m') (en : t'.n = n) : RMv R n m w t' l' m' (w'.setCell p v) :=
  h.trans ⟨k, en, (Off.refl _ _).setCell hp v, fun _ h => .inl h⟩
end
end Go.Proofs.Ytahjgdikjaakbaa
