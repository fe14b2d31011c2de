/- What is proved: stores into a tower; learn, asks, give. No condition beyond those in each statement. -/
import Derived.Test.YtahjgdikjaakbaaI
namespace Go.Proofs.Ytahjgdikjaakbaa
open Go.RowKit

theorem Low.rest {w : World} {T : Nat} {s : LS} (h : Low w T s) {x0 : Ix} {p : Addr} (hx : blk T s x0 = some p.block) (v : Value) : ∀ y g, blk T s y = some g → y ≠ x0 → (w.setCell p v).heap[g]? = w.heap[g]? := by
  intro y g hy hne
  exact heap_setCell_other w p g _ (h.ne hy hx hne)
def setK (s : LS) (i j : Nat) (v : Int) : LS := { s with known := s.known.set i ((s.known.getD i []).set j v) }
def setMd (s : LS) (i : Nat) (v : Int) : LS := { s with mood := s.mood.set i v }
def setH (s : LS) (v : Int) : LS := { s with holder := v }
def setC (s : LS) (a b : Value) : LS := { s with c2 := a, c3 := b }
def setSv (s : LS) (i : Nat) (v : Int) : LS := { s with served := s.served.set i v }
theorem blk_setK (T : Nat) (s : LS) (i j : Nat) (v : Int) : blk T (setK s i j v) = blk T s := by funext x; cases x <;> rfl
theorem blk_setMd (T : Nat) (s : LS) (i : Nat) (v : Int) : blk T (setMd s i v) = blk T s := by funext x; cases x <;> rfl
theorem blk_setH (T : Nat) (s : LS) (v : Int) : blk T (setH s v) = blk T s := by funext x; cases x <;> rfl
theorem blk_setC (T : Nat) (s : LS) (a b : Value) : blk T (setC s a b) = blk T s := by funext x; cases x <;> rfl
theorem blk_setSv (T : Nat) (s : LS) (i : Nat) (v : Int) : blk T (setSv s i v) = blk T s := by funext x; cases x <;> rfl
theorem getD_set_same {α : Type} (l : List α) (i : Nat) (v d : α) (h : i < l.length) : (l.set i v).getD i d = v := by
  simp [List.getD_eq_getElem?_getD, h]
theorem getD_set_ne {α : Type} (l : List α) {i j : Nat} (v d : α) (h : i ≠ j) : (l.set i v).getD j d = l.getD j d := by
  simp [List.getD_eq_getElem?_getD, List.getElem?_set_ne h]
theorem Low.setK {w : World} {T : Nat} {s : LS} (h : Low w T s) {i j : Nat} (hi : i < s.n) (hj : j < s.n) (v : Int) : Low (w.setCell ⟨s.K i, j, none⟩ (.int .i64 v)) T (setK s i j v) := by
  have hb : blk T s (.K i) = some (s.K i) := if_pos hi
  have hr := h.rest (p := ⟨s.K i, j, none⟩) hb (.int .i64 v)
  have hlk : i < s.known.length := by rw [h.lk]; exact hi
  refine ⟨(hr .T T rfl (by simp)).trans h.hT, h.hn, ?_, h.hrc, h.lm, ?_, ?_, ?_, ?_, ?_, ?_, ?_, ?_⟩
  · obtain ⟨cur, h1, h2⟩ := h.hR
    exact ⟨cur, (hr .R s.R rfl (by simp)).trans h1, h2⟩
  · show (s.known.set i _).length = s.n
    rw [List.length_set]
    exact h.lk
  · intro a ha
    show ((s.known.set i _).getD a []).length = s.n
    by_cases e : i = a
    · subst e
      rw [getD_set_same _ _ _ _ hlk, List.length_set]
      exact h.lki i hi
    · rw [getD_set_ne _ _ _ e]
      exact h.lki a ha
  · intro a ha
    show Row _ 3 (s.K a) 0 (s.Kc a) (intsV ((s.known.set i _).getD a []))
    by_cases e : i = a
    · subst e
      rw [getD_set_same _ _ _ _ hlk, ← intsV_set]
      have := (h.hK i hi).set j (by rw [intsV_len, h.lki i hi]; exact hj) (.int .i64 v)
      rw [Nat.zero_add] at this
      exact this
    · rw [getD_set_ne _ _ _ e]
      exact (h.hK a ha).same (hr (.K a) _ (if_pos ha) (by intro e2; injection e2 with e2; exact e e2.symm))
  · exact h.hS.same fun g hg => hr .S g hg (by simp)
  · exact h.hQ.same fun g hg => hr .Q g hg (by simp)
  · exact h.hM.same (hr .M s.M rfl (by simp))
  · exact fun a b ha hb => (h.hF a b ha hb).same fun g hg => hr (.F a b) g ((if_pos (And.intro ha hb)).trans hg) (by simp)
  · rw [blk_setK]
    exact h.inj
theorem Low.setMd {w : World} {T : Nat} {s : LS} (h : Low w T s) {i : Nat} (hi : i < s.n) (v : Int) : Low (w.setCell ⟨s.R, i * 2 + 1, none⟩ (.int .i64 v)) T (setMd s i v) := by
  have hr := h.rest (x0 := .R) (p := ⟨s.R, i * 2 + 1, none⟩) rfl (.int .i64 v)
  refine ⟨(hr .T T rfl (by simp)).trans h.hT, h.hn, ?_, h.hrc, ?_, h.lk, h.lki, ?_, ?_, ?_, ?_, ?_, ?_⟩
  · obtain ⟨cur, h1, h2, h3⟩ := h.hR
    refine ⟨_, heap_setCell_same w s.R (i * 2 + 1) cur 77 _ h1, by rw [Array.size_setIfInBounds]; exact h2, ?_⟩
    intro a ha
    obtain ⟨r1, r2⟩ := h3 a ha
    rw [Array.getElem?_setIfInBounds, Array.getElem?_setIfInBounds, if_neg (by omega)]
    refine ⟨r1, ?_⟩
    show _ = some (Value.int .i64 ((s.mood.set i v).getD a 0))
    by_cases e : i = a
    · subst e
      rw [if_pos rfl, if_pos (by omega), getD_set_same _ _ _ _ (by rw [h.lm]; exact hi)]
    · rw [if_neg (by omega), getD_set_ne _ _ _ e]
      exact r2
  · show (s.mood.set i v).length = s.n
    rw [List.length_set]
    exact h.lm
  · exact fun a ha => (h.hK a ha).same (hr (.K a) _ (if_pos ha) (by simp))
  · exact h.hS.same fun g hg => hr .S g hg (by simp)
  · exact h.hQ.same fun g hg => hr .Q g hg (by simp)
  · exact h.hM.same (hr .M s.M rfl (by simp))
  · exact fun a b ha hb => (h.hF a b ha hb).same fun g hg => hr (.F a b) g ((if_pos (And.intro ha hb)).trans hg) (by simp)
  · rw [blk_setMd]
    exact h.inj
/-- A store into one of the tower's own cells. -/
theorem Low.setT {w : World} {T : Nat} {s s' : LS} (h : Low w T s) (i : Nat) (v : Value) (ht : (towerC s).setIfInBounds i v = towerC s') (e : s' = { s with holder := s'.holder, c2 := s'.c2, c3 := s'.c3, sent := s'.sent }) : Low (w.setCell ⟨T, i, none⟩ v) T s' := by
  have hr := h.rest (x0 := .T) (p := ⟨T, i, none⟩) rfl v
  have hk := heap_setCell_same w T i _ 64 v h.hT
  rw [ht] at hk
  rw [e] at hk ⊢
  refine ⟨hk, h.hn, ?_, h.hrc, h.lm, h.lk, h.lki, ?_, ?_, ?_, ?_, ?_, ?_⟩
  · obtain ⟨cur, h1, h2⟩ := h.hR
    exact ⟨cur, (hr .R s.R rfl (by simp)).trans h1, h2⟩
  · exact fun a ha => (h.hK a ha).same (hr (.K a) _ (if_pos ha) (by simp))
  · exact h.hS.same fun g hg => hr .S g hg (by simp)
  · exact h.hQ.same fun g hg => hr .Q g hg (by simp)
  · exact h.hM.same (hr .M s.M rfl (by simp))
  · exact fun a b ha hb => (h.hF a b ha hb).same fun g hg => hr (.F a b) g ((if_pos (And.intro ha hb)).trans hg) (by simp)
  · have : blk T { s with holder := s'.holder, c2 := s'.c2, c3 := s'.c3, sent := s'.sent } = blk T s := by funext x; cases x <;> rfl
    rw [this]
    exact h.inj
theorem Low.setH {w : World} {T : Nat} {s : LS} (h : Low w T s) (v : Int) : Low (w.setCell ⟨T, 1, none⟩ (.int .i64 v)) T (setH s v) := h.setT 1 _ rfl rfl
theorem Low.setC {w : World} {T : Nat} {s : LS} (h : Low w T s) (a b : Value) : Low ((w.setCell ⟨T, 2, none⟩ a).setCell ⟨T, 3, none⟩ b) T (setC s a b) :=
  (h.setT (s' := Go.Proofs.Ytahjgdikjaakbaa.setC s a s.c3) 2 a rfl rfl).setT 3 b rfl rfl
theorem Low.setSv {w : World} {T : Nat} {s : LS} (h : Low w T s) {i : Nat} {g off c l : Nat} (hv : s.tsv = .slice (some ⟨g, off, none⟩) l c) (hi : i < s.served.length) (v : Int) : Low (w.setCell ⟨g, off + i, none⟩ (.int .i64 v)) T (setSv s i v) := by
  have hb : blk T s .S = some g := by show s.tsv.ownBlock = _; rw [hv]; rfl
  have hr := h.rest (p := ⟨g, off + i, none⟩) hb (.int .i64 v)
  refine ⟨(hr .T T rfl (by simp)).trans h.hT, h.hn, ?_, h.hrc, h.lm, h.lk, h.lki, ?_, ?_, ?_, ?_, ?_, ?_⟩
  · obtain ⟨cur, h1, h2⟩ := h.hR
    exact ⟨cur, (hr .R s.R rfl (by simp)).trans h1, h2⟩
  · exact fun a ha => (h.hK a ha).same (hr (.K a) _ (if_pos ha) (by simp))
  · show Sl1 _ 3 s.tsv (intsV (s.served.set i v))
    rcases h.hS with ⟨e, _⟩ | ⟨g', off', cap', e, hrow⟩
    · rw [hv] at e; cases e
    · rw [hv] at e
      cases e
      refine .inr ⟨g, off, c, ?_, ?_⟩
      · rw [hv, intsV_len, intsV_len, List.length_set]
      · rw [← intsV_set]
        exact hrow.set i (by rw [intsV_len]; exact hi) _
  · exact h.hQ.same fun g hg => hr .Q g hg (by simp)
  · exact h.hM.same (hr .M s.M rfl (by simp))
  · exact fun a b ha hb => (h.hF a b ha hb).same fun g hg => hr (.F a b) g ((if_pos (And.intro ha hb)).trans hg) (by simp)
  · rw [blk_setSv]
    exact h.inj
/-- A push to the token's queue: another value, in its old block or in a new one. -/
def setQ (s : LS) (v : Value) (q : List Int) : LS := { s with c3 := v, tqv := v, queue := q }
theorem Low.pushQ {w w1 : World} {T : Nat} {s : LS} (h : Low w T s) {v : Value} {q : List Int} (hs : Sl1 w1 3 v (intsV q)) (hg : w.grownBy w1 s.tqv.ownBlock) (hn : ∀ g, v.ownBlock = some g → s.tqv.ownBlock = some g ∨ w.heap.size ≤ g) : Low (w1.setCell ⟨T, 3, none⟩ v) T (setQ s v q) := by
  have hTl : T < w.heap.size := h.lt .T T rfl
  have hb : ∀ y g, blk T s y = some g → y ≠ .Q → w1.heap[g]? = w.heap[g]? := fun y g hy hne => hg.block g (h.lt y g hy) (fun e => hne (h.inj y .Q g hy e.symm))
  have hr : ∀ y g, blk T s y = some g → y ≠ .Q → y ≠ .T → (w1.setCell ⟨T, 3, none⟩ v).heap[g]? = w.heap[g]? := fun y g hy h1 h2 => (heap_setCell_other w1 ⟨T, 3, none⟩ g _ (h.ne hy (y := .T) rfl h2)).trans (hb y g hy h1)
  have hk := heap_setCell_same w1 T 3 _ 64 v ((hb .T T rfl (by simp)).trans h.hT)
  have hq : ∀ g, blk T (setQ s v q) .Q = some g → blk T s .Q = some g ∨ w.heap.size ≤ g := fun g hg => hn g hg
  refine ⟨hk, h.hn, ?_, h.hrc, h.lm, h.lk, h.lki, ?_, ?_, ?_, ?_, ?_, ?_⟩
  · obtain ⟨cur, h1, h2⟩ := h.hR
    exact ⟨cur, (hr .R s.R rfl (by simp) (by simp)).trans h1, h2⟩
  · exact fun a ha => (h.hK a ha).same (hr (.K a) _ (if_pos ha) (by simp) (by simp))
  · exact h.hS.same fun g hg => hr .S g hg (by simp) (by simp)
  · refine hs.same fun g hg => heap_setCell_other w1 ⟨T, 3, none⟩ g _ ?_
    rintro rfl
    rcases hn _ hg with e | e
    · exact h.ne (x := .Q) (y := .T) e rfl (by simp) rfl
    · exact absurd hTl (by simpa using e)
  · exact h.hM.same (hr .M s.M rfl (by simp) (by simp))
  · exact fun a b ha hb => (h.hF a b ha hb).same fun g hg => hr (.F a b) g ((if_pos (And.intro ha hb)).trans hg) (by simp) (by simp)
  · exact inj_step h.inj h.lt (fun y hy => by cases y <;> first | rfl | exact absurd rfl hy) hq
end Go.Proofs.Ytahjgdikjaakbaa
